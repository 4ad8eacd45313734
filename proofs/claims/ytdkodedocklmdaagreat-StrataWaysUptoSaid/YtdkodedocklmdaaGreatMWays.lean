/- run, undone, Make, Place (MAt, MRun, MWay). -/
import Derived.Test.YtdkodedocklmdaaGreatMStep
import Derived.Laws.EntriesVeiled
set_option linter.unusedSimpArgs false
set_option linter.unusedVariables false
namespace Go.Proofs.YtdkodedocklmdaaGreat
section
open Go.RowKit Go.Maps Go.Shelf
open Go.Lib hiding intOf size_eq
/-- a tree's blocks are of the tree's own types -/
theorem tree_type {w : World} {T rt rm tb : Nat} {nd : List Nd} (h : TreeAt w T rt rm tb nd) {b : Nat} (hb : IsBlk T rt rm nd b) {cs : Array Value} {t : TypeId} {fz : Nat × Nat} (hc : w.heap[b]? = some (.cells cs t fz)) : t = 84 ∨ t = 82 := by
  have hmap : ∀ {m : Nat} {q : List UInt8}, KidsAt w m nd q → ∀ {cs t fz}, w.heap[m]? = some (.cells cs t fz) → False := fun {m q} hk {cs t fz} hx => by
    obtain ⟨n, D, ho, _⟩ := hk
    obtain ⟨es, c, he, _⟩ := ho
    rw [hx] at he
    cases he
  rcases hb with rfl | rfl | rfl | ⟨y, hy, rfl | rfl⟩
  · rw [h.tr] at hc
    injection hc with hc
    injection hc with _ hc _
    exact .inl hc.symm
  · rw [h.root] at hc
    unfold nodeObj at hc
    injection hc with hc
    injection hc with _ hc _
    exact .inr hc.symm
  · exact (hmap h.rmap hc).elim
  · rw [h.node y hy] at hc
    unfold nodeObj at hc
    injection hc with hc
    injection hc with _ hc _
    exact .inr hc.symm
  · exact (hmap (h.nmap y hy) hc).elim
/-- where a walk that makes stands -/
structure MAt (w wr : World) (tb Wk Bm Bd T rt rm : Nat) (nd0 nd : List Nd) (mk : Bool) (a : List UInt8) (left : List (List UInt8)) (hops : Nat) (md : List (List UInt8)) (v : Value) (o : Option Addr) (cap : Nat) : Prop where
  blk : wr.heap[Wk]? = some (walkM T (bs a) (.slice o left.length cap) hops mk (undoF Bm Bd))
  la : LeftA wr o cap left
  out : OutOf (Wk :: Bd :: v.ownBlock.toList) o
  outT : ∀ ad, o = some ad → ¬ IsBlk T rt rm nd ad.block
  made : MadeAt wr w.heap.size Bm Bd mk md v
  tree : TreeAt wr T rt rm tb nd
  turn : TurnX [] T rt rm nd0 nd w wr
  lo : w.heap.size ≤ Wk
section
variable {w wr w4 : World} {tb Wk Bm Bd T rt rm : Nat} {nd0 nd : List Nd} {mk : Bool} {a a' : List UInt8} {left left' : List (List UInt8)} {hops hops' : Nat} {md : List (List UInt8)} {v : Value} {o o' : Option Addr} {cap cap' : Nat}
theorem MAt.nWk (h : MAt w wr tb Wk Bm Bd T rt rm nd0 nd mk a left hops md v o cap) : ¬ IsBlk T rt rm nd Wk := fun hx => by
  rcases tree_type h.tree hx h.blk with e | e <;> exact absurd e (by decide)
theorem MAt.nBm (h : MAt w wr tb Wk Bm Bd T rt rm nd0 nd mk a left hops md v o cap) : ¬ IsBlk T rt rm nd Bm := fun hx => by
  rcases tree_type h.tree hx h.made.bm with e | e <;> exact absurd e (by decide)
theorem MAt.nBd (h : MAt w wr tb Wk Bm Bd T rt rm nd0 nd mk a left hops md v o cap) : ¬ IsBlk T rt rm nd Bd := fun hx => by
  rcases tree_type h.tree hx h.made.bd with e | e <;> exact absurd e (by decide)
/-- the row of what was made -/
theorem MAt.row (h : MAt w wr tb Wk Bm Bd T rt rm nd0 nd mk a left hops md v o cap) {k : Nat} (hk : k ∈ v.ownBlock.toList) : w.heap.size ≤ k ∧ ∃ cur, wr.heap[k]? = some (.cells cur 9 (0, 0)) := by
  rcases h.made.tx.2 with ⟨rfl, _⟩ | ⟨g, cp, cur, rfl, hb, hg, _⟩
  · simp [Value.ownBlock] at hk
  · simp [Value.ownBlock] at hk
    subst hk
    exact ⟨hb, cur, hg⟩
theorem MAt.nRow (h : MAt w wr tb Wk Bm Bd T rt rm nd0 nd mk a left hops md v o cap) {k : Nat} (hk : k ∈ v.ownBlock.toList) : ¬ IsBlk T rt rm nd k := fun hx => by
  obtain ⟨_, cur, hc⟩ := h.row hk
  rcases tree_type h.tree hx hc with e | e <;> exact absurd e (by decide)
theorem cells_type {W : World} {b : Nat} {c1 c2 : Array Value} {t1 t2 : TypeId} {f1 f2 : Nat × Nat} (h1 : W.heap[b]? = some (.cells c1 t1 f1)) (h2 : W.heap[b]? = some (.cells c2 t2 f2)) : t1 = t2 := by
  rw [h1] at h2
  injection h2 with h2
  injection h2 with _ h2 _
theorem MAt.ne1 (h : MAt w wr tb Wk Bm Bd T rt rm nd0 nd mk a left hops md v o cap) : Bm ≠ Bd := fun e => by
  have h1 := h.made.bm
  rw [e] at h1
  exact absurd (cells_type h1 h.made.bd) (by decide)
theorem MAt.ne2 (h : MAt w wr tb Wk Bm Bd T rt rm nd0 nd mk a left hops md v o cap) : Bm ≠ Wk := fun e => by
  have h1 := h.made.bm
  rw [e] at h1
  exact absurd (cells_type h1 h.blk) (by decide)
theorem MAt.ne3 (h : MAt w wr tb Wk Bm Bd T rt rm nd0 nd mk a left hops md v o cap) : Bd ≠ Wk := fun e => by
  have h1 := h.made.bd
  rw [e] at h1
  exact absurd (cells_type h1 h.blk) (by decide)
theorem MAt.ne4 (h : MAt w wr tb Wk Bm Bd T rt rm nd0 nd mk a left hops md v o cap) {k : Nat} (hk : k ∈ v.ownBlock.toList) : k ≠ Wk ∧ k ≠ Bd ∧ k ≠ Bm := by
  obtain ⟨_, cur, hc⟩ := h.row hk
  refine ⟨fun e => ?_, fun e => ?_, fun e => ?_⟩ <;> subst e
  · exact absurd (cells_type hc h.blk) (by decide)
  · exact absurd (cells_type hc h.made.bd) (by decide)
  · exact absurd (cells_type hc h.made.bm) (by decide)
theorem MAt.size (h : MAt w wr tb Wk Bm Bd T rt rm nd0 nd mk a left hops md v o cap) : w.heap.size ≤ wr.heap.size := h.turn.size
/-- the walk's own block turns -/
theorem MAt.but (h : MAt w wr tb Wk Bm Bd T rt rm nd0 nd mk a left hops md v o cap) (hb : But [Wk] wr w4) (hk : w4.heap[Wk]? = some (walkM T (bs a') (.slice o' left'.length cap') hops' mk (undoF Bm Bd))) (hl : LeftA w4 o' cap' left') (ho : OutOf (Wk :: Bd :: v.ownBlock.toList) o') (hot : ∀ ad, o' = some ad → ¬ IsBlk T rt rm nd ad.block) :
    MAt w w4 tb Wk Bm Bd T rt rm nd0 nd mk a' left' hops' md v o' cap' := by
  have hx : TurnX [Wk] T rt rm nd nd wr w4 := TurnX.of_but hb
  refine ⟨hk, hl, ho, hot, h.made.turn hx ⟨h.nBm, fun e => h.ne2 (List.mem_singleton.1 e)⟩ ⟨h.nBd, fun e => h.ne3 (List.mem_singleton.1 e)⟩ (fun k hk2 => ⟨h.nRow hk2, fun e => (h.ne4 hk2).1 (List.mem_singleton.1 e)⟩), h.tree.same (fun b hb2 => hb.block b (h.tree.lt hb2) (fun e => h.nWk (by rw [← List.mem_singleton.1 e]; exact hb2))), ?_, h.lo⟩
  exact h.turn.trans hx (fun i hi => .inr (by rw [List.mem_singleton.1 hi]; exact h.lo))
/-- what piece moves -/
theorem MAt.piece {ad : Addr} (h : MAt w wr tb Wk Bm Bd T rt rm nd0 nd mk a left hops md v (some ad) cap) (hb : But [Wk] wr w4) (hk : w4.heap[Wk]? = some (walkM T (bs a') (.slice o' left'.length cap') hops' mk (undoF Bm Bd))) (hl : LeftA w4 o' cap' left') (ho : o' = some ad ∨ ∀ b, o' = some b → wr.heap.size ≤ b.block) :
    MAt w w4 tb Wk Bm Bd T rt rm nd0 nd mk a' left' hops' md v o' cap' := by
  refine h.but hb hk hl (fun b hb2 hx => ?_) (fun b hb2 hx => ?_)
  · rcases ho with ho | ho
    · rw [ho] at hb2
      exact h.out b hb2 hx
    · have h1 := ho b hb2
      rcases List.mem_cons.1 hx with hx | hx
      · have := heap_lt h.blk
        omega
      rcases List.mem_cons.1 hx with hx | hx
      · have := Boxed.lt h.made.bd
        omega
      · obtain ⟨_, cur, hc⟩ := h.row hx
        have := heap_lt hc
        omega
  · rcases ho with ho | ho
    · rw [ho] at hb2
      exact h.outT b hb2 hx
    · have h1 := ho b hb2
      have := h.tree.lt hx
      omega
theorem MAt.tail {c : List UInt8} {ad : Addr} (h : MAt w wr tb Wk Bm Bd T rt rm nd0 nd mk a (c :: left) hops md v (some ad) cap) :
    MAt w (wr.setCell ⟨Wk, 2, none⟩ (.slice (tailO ad cap) left.length (cap - 1))) tb Wk Bm Bd T rt rm nd0 nd mk a left hops md v (tailO ad cap) (cap - 1) := by
  have hb : But [Wk] wr (wr.setCell ⟨Wk, 2, none⟩ (.slice (tailO ad cap) left.length (cap - 1))) := (But.refl [Wk] wr).setCell (p := ⟨Wk, 2, none⟩) (.inl (List.mem_singleton.2 rfl)) _
  have hsame : ∀ b, tailO ad cap = some b → b.block = ad.block := fun b hb2 => by
    obtain ⟨b2, e1, e2⟩ := tailO_some ad cap
    rw [e1] at hb2
    injection hb2 with hb2
    subst hb2
    exact e2
  have ho : OutOf (Wk :: Bd :: v.ownBlock.toList) (tailO ad cap) := fun b hb2 => by rw [hsame b hb2]; exact h.out ad rfl
  have hl : LeftA wr (tailO ad cap) (cap - 1) left := by
    have hle := h.la.le
    simp at hle
    unfold tailO
    by_cases hc : cap = 1
    · rw [if_pos hc]
      obtain rfl : left = [] := List.eq_nil_of_length_eq_zero (by omega)
      exact ⟨by simp, by have := h.la.max; omega, h.la.lt, fun i x hx => by simp at hx⟩
    · rw [if_neg hc]
      exact h.la.tail
  exact h.but hb (walkM_setLeft h.blk _) (hl.but hb (fun b hb2 hx => ho b hb2 (by rw [List.mem_singleton.1 hx]; exact List.mem_cons_self ..))) ho (fun b hb2 => by rw [hsame b hb2]; exact h.outT ad rfl)
theorem MAt.setAt (h : MAt w wr tb Wk Bm Bd T rt rm nd0 nd mk a left hops md v o cap) (b : List UInt8) :
    MAt w (wr.setCell ⟨Wk, 1, none⟩ (.string (bs b))) tb Wk Bm Bd T rt rm nd0 nd mk b left hops md v o cap := by
  have hb : But [Wk] wr (wr.setCell ⟨Wk, 1, none⟩ (.string (bs b))) := (But.refl [Wk] wr).setCell (p := ⟨Wk, 1, none⟩) (.inl (List.mem_singleton.2 rfl)) _
  exact h.but hb (walkM_setAt h.blk _) (h.la.but hb (fun b hb2 hx => h.out b hb2 (by rw [List.mem_singleton.1 hx]; exact List.mem_cons_self ..))) h.out h.outT
theorem LeftA.turn {ex : List Nat} {nd' : List Nd} {L : List (List UInt8)} (h : LeftA wr o cap L) (hx : TurnX ex T rt rm nd nd' wr w4) (ho : OutOf ex o) (hot : ∀ ad, o = some ad → ¬ IsBlk T rt rm nd ad.block) : LeftA w4 o cap L := by
  refine ⟨h.le, h.max, fun ad hadd => Nat.lt_of_lt_of_le (h.lt ad hadd) hx.size, fun i x hi => ?_⟩
  obtain ⟨ad, e1, e2⟩ := h.cell i x hi
  refine ⟨ad, e1, ?_⟩
  unfold World.cell? at e2 ⊢
  rw [add_block] at e2 ⊢
  rw [hx.keep ad.block (h.lt ad e1) (hot ad e1) (ho ad e1)]
  exact e2
/-- what was missing was made, or not -/
theorem MAt.miss {nd' : List Nd} {md' : List (List UInt8)} {v' : Value} (h : MAt w wr tb Wk Bm Bd T rt rm nd0 nd mk a left hops md v o cap) (ht : TreeAt w4 T rt rm tb nd') (hx : TurnX (Wk :: Bd :: v.ownBlock.toList) T rt rm nd nd' wr w4)
    (hk : w4.heap[Wk]? = some (walkM T (bs a') (.slice o left.length cap) hops mk (undoF Bm Bd))) (hm : MadeAt w4 w.heap.size Bm Bd mk md' v') (hv : ∀ k ∈ v'.ownBlock.toList, k ∈ v.ownBlock.toList ∨ wr.heap.size ≤ k) :
    MAt w w4 tb Wk Bm Bd T rt rm nd0 nd' mk a' left hops md' v' o cap := by
  refine ⟨hk, h.la.turn hx h.out h.outT, fun b hb2 hmem => ?_, fun b hb2 hblk => ?_, hm, ht, ?_, h.lo⟩
  · rcases List.mem_cons.1 hmem with e | e
    · exact h.out b hb2 (by rw [e]; exact List.mem_cons_self ..)
    rcases List.mem_cons.1 e with e | e
    · exact h.out b hb2 (by rw [e]; exact List.mem_cons_of_mem _ (List.mem_cons_self ..))
    · rcases hv _ e with e | e
      · exact h.out b hb2 (List.mem_cons_of_mem _ (List.mem_cons_of_mem _ e))
      · have := h.la.lt b hb2
        omega
  · rcases hx.blk _ hblk with e | e
    · exact h.outT b hb2 e
    · have := h.la.lt b hb2
      omega
  · refine h.turn.trans hx (fun i hi => .inr ?_)
    rcases List.mem_cons.1 hi with e | e
    · rw [e]; exact h.lo
    rcases List.mem_cons.1 e with e | e
    · rw [e]; exact h.made.lo.1
    · exact (h.row e).1
end
set_option maxRecDepth 100000 in
theorem told_make_any {T Wk : Nat} {a : ByteArray} {lv : Value} {hops : Int} {mk : Bool} {mf : Value} (x : Value) (w : World) (hw : w.heap[Wk]? = some (walkM T a lv hops mk mf)) :
    Calls Tryz.prog 37 #[.pointer (some ⟨Wk, 0, none⟩), x] w fun e w' => e = .returned (.tuple #[]) ∧ w = w' := by
  obtain ⟨_, _, _, _, _, _, _, c7⟩ := walkM_cells hw
  have hnf := neq_nilFunc
  clear hw
  go_enter Tryz.func37, Tryz.ntmps37
  go_wp2
  refine bodyPost_end (results_none rfl _ _ _) rfl ⟨rfl, rfl⟩
end
section
open Go.RowKit Go.Maps Go.Shelf
open Go.Lib hiding intOf size_eq
theorem walkMeasM_eq {w : World} {Wk T : Nat} {a : ByteArray} {o : Option Addr} {n cap : Nat} {hops : Nat} {mk : Bool} {mf : Value} (h : w.heap[Wk]? = some (walkM T a (.slice o n cap) hops mk mf)) : walkMeas Wk w = needF n hops := by
  obtain ⟨_, _, c2, c3, _⟩ := walkM_cells h
  unfold walkMeas
  rw [c2, c3]
  simp
/-- the relation of run's loop -/
def RunM (w : World) (tb Wk Bm Bd T rt rm : Nat) (nd0 : List Nd) (mk : Bool) (R : List Ent × List (List UInt8) × Except Nat (List UInt8)) (wr : World) : Prop :=
  ∃ nd a left hops md v o cap, MAt w wr tb Wk Bm Bd T rt rm nd0 nd mk a left hops md v o cap ∧ Here (ents nd) a ∧ a.length ≤ 255 ∧ (∀ c ∈ left, c.length ≤ 1099511600000) ∧ hops ≤ 40 ∧ needF left.length hops ≤ 1099511627776 ∧ md.length ≤ (ents nd).length ∧ makeF mk (needF left.length hops) (ents nd) a left hops md = R
/-- what run answers -/
def RunMR (w : World) (tb Wk Bm Bd T rt rm : Nat) (nd0 : List Nd) (mk : Bool) (R : List Ent × List (List UInt8) × Except Nat (List UInt8)) (r : Ending) (w' : World) : Prop :=
  ∃ nd v lv a hops, ents nd = R.1 ∧ TreeAt w' T rt rm tb nd ∧ MadeAt w' w.heap.size Bm Bd mk R.2.1 v ∧ TurnX [] T rt rm nd0 nd w w' ∧ w'.heap[Wk]? = some (walkM T a lv hops mk (undoF Bm Bd)) ∧ R.2.1.length ≤ 4096 ∧ match R.2.2 with
    | .error n => n ≠ 0 ∧ r = .returned (.tuple #[.string ⟨#[]⟩, errV n])
    | .ok q => r = .returned (.tuple #[.string (bs q), .nilIface])
theorem dirNo_zero {L : List Ent} {c q : List UInt8} (h : dirNo L c q = 0) : mayNo c q = 0 ∧ putNo L (dirE q) = 0 := by
  unfold dirNo at h
  by_cases h1 : mayNo c q ≠ 0
  · rw [if_pos h1] at h; exact absurd h h1
  · rw [if_neg h1] at h; exact ⟨by omega, h⟩
set_option maxRecDepth 100000 in
set_option maxHeartbeats 16000000 in
theorem run_make_any {tb Wk Bm Bd T rt rm : Nat} {nd0 : List Nd} {mk : Bool} {R : List Ent × List (List UInt8) × Except Nat (List UInt8)} {w0 : World} (w : World) (h : RunM w0 tb Wk Bm Bd T rt rm nd0 mk R w) :
    Calls Tryz.prog 20 #[.pointer (some ⟨Wk, 0, none⟩)] w fun r w' => RunMR w0 tb Wk Bm Bd T rt rm nd0 mk R r w' := by
  have Hi := Lib.hid h
  clear h
  go_enter Tryz.func20, Tryz.ntmps20
  go_wp2
  go_loopw [4, 5, 6, 7] (fun _ _ _ _ wr => RunM w0 tb Wk Bm Bd T rt rm nd0 mk R wr) (fun _ _ _ _ wr => walkMeas Wk wr)
  case atStart => exact Hi.out
  case round =>
    obtain ⟨nd, a, left, hops, md, v, o, cap, hW, hhere, ha, hl, hh, hN, hml, hR⟩ := hrel
    clear Hi
    have hml2 : md.length ≤ 4096 := Nat.le_trans hml hW.tree.good.len
    obtain ⟨c0, c1, c2, c3, _, _, _, _⟩ := walkM_cells hW.blk
    have f1 := walkM_frozen hW.blk 1
    have f2 := walkM_frozen hW.blk 2
    cases left with
    | nil =>
      have Hw := Lib.hid hW
      have HR := Lib.hid (hR.symm.trans makeF_nil)
      clear hW hR
      go_wp2
      go_ret2
      refine ⟨nd, v, _, _, _, ?_, Hw.out.tree, ?_, Hw.out.turn, Hw.out.blk, ?_, ?_⟩
      · rw [HR.out]
      · rw [HR.out]; exact Hw.out.made
      · rw [HR.out]; exact hml2
      · rw [HR.out]; rfl
    | cons c left =>
      obtain ⟨ad, hoa, hca⟩ := hW.la.cell 0 c rfl
      subst hoa
      rw [add_zero, show encS c = .string (bs c) from rfl] at hca
      have hc40 := hl c (List.mem_cons_self ..)
      have hl2 : ∀ x ∈ left, x.length ≤ 1099511600000 := fun x hx => hl x (List.mem_cons_of_mem _ hx)
      rw [needF_cons] at hN
      have hnd := needF_ge left.length hops
      by_cases hcap : cap = 1
      · subst hcap
        have ht := hW.tail
        have e1 : tailO ad 1 = some ad := rfl
        rw [e1] at ht
        rw [show (1 : Nat) - 1 = 0 from rfl] at ht
        obtain ⟨w1, hw1⟩ : ∃ x, x = wr.setCell ⟨Wk, 2, none⟩ (.slice (some ad) left.length 0) := ⟨_, rfl⟩
        rw [← hw1] at ht
        obtain ⟨d0, d1, _, _, _, _, _, _⟩ := walkM_cells ht.blk
        have df1 := walkM_frozen ht.blk 1
        have Hw := Lib.hid hW
        have Ht := Lib.hid ht
        have HR := Lib.hid hR
        have Hl2 := Lib.hid hl2
        have HN := Lib.hid hN
        have Hw1 := Lib.hid hw1
        have Hh := Lib.hid hh
        have Ha := Lib.hid ha
        have Hc := Lib.hid hc40
        have Hge := Lib.hid hnd
        have Hhere := Lib.hid hhere
        have Hml := Lib.hid hml
        have Hml2 := Lib.hid hml2
        have HG := Lib.hid ht.tree.good
        clear hW ht hR hl2 hN hw1 hh ha hc40 hnd hl e1 hhere hml hml2
        by_cases h1 : c = [46]
        · subst h1
          have b1 : ((bs [46]).toList == [46]) = true := eqB_t (by rw [bs_toList])
          go_upto_region 4 with fail
          rw [← Hw1.out]
          go_wp2_with (first
            | (go_at_call 37; refine (told_make_any _ _ Ht.out.blk).mono ?_; rintro r w5 ⟨rfl, rfl⟩))
          go_roundw
          case rel => exact ⟨_, _, _, _, _, _, _, _, Ht.out, Hhere.out, Ha.out, Hl2.out, Hh.out, by have := HN.out; omega, Hml.out, by rw [← HR.out, makeF_dot]⟩
          case measure =>
            rw [walkMeasM_eq Ht.out.blk, walkMeasM_eq Hw.out.blk, needF_cons]
            omega
        by_cases h2 : c = [46, 46]
        · subst h2
          have b1 : ((bs [46, 46]).toList == [46]) = false := eqB_f (by rw [bs_toList]; decide)
          have b2 : ((bs [46, 46]).toList == [46, 46]) = true := eqB_t (by rw [bs_toList])
          have hpar := fun W => parent_any (bs a) W (by rw [bs_size]; have := Ha.out; omega)
          rw [bs_toList] at hpar
          have Hpar := Lib.hid hpar
          have Ht2 := Lib.hid (Ht.out.setAt (parent a))
          obtain ⟨w2, hw2⟩ : ∃ x, x = w1.setCell ⟨Wk, 1, none⟩ (.string (bs (parent a))) := ⟨_, rfl⟩
          rw [← hw2] at Ht2
          obtain ⟨_, g1, _, _, _, _, _, _⟩ := walkM_cells Ht2.out.blk
          have Hw2 := Lib.hid hw2
          clear hpar hw2
          go_upto_region 4 with fail
          rw [← Hw1.out]
          go_upto_region 15 with (go_at_call 34; refine (Hpar.out _).mono ?_; rintro r w5 ⟨rfl, rfl⟩)
          rw [← Hw2.out]
          go_wp2_with (first
            | (go_at_call 37; refine (told_make_any _ _ Ht2.out.blk).mono ?_; rintro r w5 ⟨rfl, rfl⟩))
          go_roundw
          case rel => exact ⟨_, _, _, _, _, _, _, _, Ht2.out, Here.parent HG.out Hhere.out, Nat.le_trans (parent_length a) Ha.out, Hl2.out, Hh.out, by have := HN.out; omega, Hml.out, by rw [← HR.out, makeF_up]⟩
          case measure =>
            rw [walkMeasM_eq Ht2.out.blk, walkMeasM_eq Hw.out.blk, needF_cons]
            omega
        have b1 : ((bs c).toList == [46]) = false := eqB_f (by rw [bs_toList]; exact h1)
        have b2 : ((bs c).toList == [46, 46]) = false := eqB_f (by rw [bs_toList]; exact h2)
        have hjl := joinP_length a c
        have hjoin := fun W => join_any (bs a) (bs c) W (by rw [bs_size, bs_size]; have := Ha.out; have := Hc.out; omega)
        rw [bs_toList, bs_toList] at hjoin
        have hll : left.length ≤ 1099511627776 := by have := HN.out; have := Hge.out; omega
        cases hq : lookE (ents nd) (joinP a c) with
        | some e =>
          have hrn := makeF_there HG.out (mk := mk) (md := md) (left := left) Hh.out h1 h2 hq
          rw [HR.out] at hrn
          have hqz := path_size HG.out hq
          have hpc := piece_there_any (bs c) (joinP a c) e w1 Ht.out.tree Ht.out.blk Ht.out.la (fun e2 => Ht.out.out _ rfl (by rw [e2]; exact List.mem_cons_self ..)) (by omega) hll Hh.out hq
          have Hq := Lib.hid hq
          obtain ⟨q, hqq⟩ : ∃ q, q = joinP a c := ⟨_, rfl⟩
          rw [← hqq] at hrn hjl hjoin hpc Hq hqz
          have Hjoin := Lib.hid hjoin
          have Hpc := Lib.hid hpc
          clear hjoin hpc h1 h2 hjl hq hqq
          cases hpf : pieceM mk a q left hops e with
          | error n =>
            have hn0 := pieceM_err hpf
            have Hn0 := Lib.hid hn0
            have Hn := Lib.hid (errV_pos hn0)
            rw [hpf] at hrn
            have Hrn := Lib.hid hrn
            have Hpf := Lib.hid hpf
            clear hrn hpf hn0
            go_upto_region 4 with fail
            rw [← Hw1.out]
            go_wp2_with (first
              | (go_at_call 35; refine (Hjoin.out _).mono ?_; rintro r w5 ⟨rfl, rfl⟩)
              | (go_at_call 36; refine Hpc.out.mono ?_; rintro r w3 ⟨hb3, hr3⟩; rw [Hpf.out] at hr3; simp only [] at hr3; obtain ⟨hr3, hk3⟩ := hr3; rw [Hn.out] at hr3; subst hr3
                 have H3 := Lib.hid (Ht.out.piece hb3 hk3 (Ht.out.la.but hb3 (fun b hb2 hx => Ht.out.out b hb2 (by rw [List.mem_singleton.1 hx]; exact List.mem_cons_self ..))) (.inl rfl))
                 clear hb3 hk3))
            go_ret2
            refine ⟨nd, v, _, _, _, ?_, H3.out.tree, ?_, H3.out.turn, H3.out.blk, ?_, ?_⟩
            · rw [Hrn.out]
            · rw [Hrn.out]; exact H3.out.made
            · rw [Hrn.out]; exact Hml2.out
            · rw [Hrn.out]
              refine ⟨Hn0.out, ?_⟩
              rw [Hn.out]
              rfl
          | ok z =>
            cases z with
            | none =>
              rw [hpf] at hrn
              have Hrn := Lib.hid hrn
              have Hpf := Lib.hid hpf
              clear hrn hpf
              go_upto_region 4 with fail
              rw [← Hw1.out]
              go_wp2_with (first
                | (go_at_call 35; refine (Hjoin.out _).mono ?_; rintro r w5 ⟨rfl, rfl⟩)
                | (go_at_call 36; refine Hpc.out.mono ?_; rintro r w3 ⟨hb3, hr3⟩; rw [Hpf.out] at hr3; simp only [] at hr3; obtain ⟨rfl, hk3⟩ := hr3
                   have H3 := Lib.hid (Ht.out.piece hb3 hk3 (Ht.out.la.but hb3 (fun b hb2 hx => Ht.out.out b hb2 (by rw [List.mem_singleton.1 hx]; exact List.mem_cons_self ..))) (.inl rfl))
                   clear hb3 hk3)
                | (go_at_call 37; refine (told_make_any _ _ H3.out.blk).mono ?_; rintro r w5 ⟨rfl, rfl⟩))
              go_ret2
              refine ⟨nd, v, _, _, _, ?_, H3.out.tree, ?_, H3.out.turn, H3.out.blk, ?_, ?_⟩
              · rw [Hrn.out]
              · rw [Hrn.out]; exact H3.out.made
              · rw [Hrn.out]; exact Hml2.out
              · rw [Hrn.out]; rfl
            | some z =>
              obtain ⟨a', left', hops'⟩ := z
              obtain ⟨e1, e2, e3, e4, e5⟩ := pieceM_on HG.out Hq.out Hh.out Hhere.out Ha.out (by omega) Hl2.out hpf
              rw [hpf] at hrn
              have Hrn := Lib.hid hrn
              have Hpf := Lib.hid hpf
              have E1 := Lib.hid e1
              have E2 := Lib.hid e2
              have E3 := Lib.hid e3
              have Hnd := Lib.hid e4
              have E5 := Lib.hid e5
              clear hrn hpf e1 e2 e3 e4 e5
              go_upto_region 4 with fail
              rw [← Hw1.out]
              go_wp2_with (first
                | (go_at_call 35; refine (Hjoin.out _).mono ?_; rintro r w5 ⟨rfl, rfl⟩)
                | (go_at_call 36; refine Hpc.out.mono ?_; rintro r w3 ⟨hb3, hr3⟩; rw [Hpf.out] at hr3; simp only [] at hr3; obtain ⟨rfl, o', cap', hk3, hl3, ho3⟩ := hr3
                   have h3 := Ht.out.piece hb3 hk3 hl3 ho3
                   obtain ⟨_, g1, _, _, _, _, _, _⟩ := walkM_cells h3.blk
                   have H3 := Lib.hid h3
                   clear hb3 hk3 hl3 ho3 h3)
                | (go_at_call 37; refine (told_make_any _ _ H3.out.blk).mono ?_; rintro r w5 ⟨rfl, rfl⟩))
              go_roundw
              case rel => exact ⟨_, _, _, _, _, _, _, _, H3.out, E5.out, E2.out, E3.out, E1.out, by have := HN.out; have := Hnd.out; omega, Hml.out, Hrn.out.symm⟩
              case measure =>
                rw [walkMeasM_eq H3.out.blk, walkMeasM_eq Hw.out.blk, needF_cons]
                have := Hnd.out
                omega
        | none =>
          have hrn := makeF_miss (mk := mk) (hops := hops) (md := md) (left := left) h1 h2 hq
          rw [HR.out] at hrn
          have hpc := piece_missing_any (bs c) (joinP a c) w1 Ht.out.tree Ht.out.blk Ht.out.nWk hll Ht.out.made Ht.out.size ⟨Ht.out.nBm, fun e2 => Ht.out.ne2 (List.mem_singleton.1 e2)⟩ ⟨Ht.out.nBd, fun e2 => Ht.out.ne3 (List.mem_singleton.1 e2)⟩ (fun k hk => ⟨Ht.out.nRow hk, fun e2 => (Ht.out.ne4 hk).1 (List.mem_singleton.1 e2)⟩) Ht.out.ne1 (by have := Hml2.out; omega) (by rw [bs_size]; have := Hc.out; omega) (by have := Ha.out; have := Hc.out; omega) hq
          rw [bs_toList] at hpc
          have Hq := Lib.hid hq
          obtain ⟨q, hqq⟩ : ∃ q, q = joinP a c := ⟨_, rfl⟩
          rw [← hqq] at hrn hjl hjoin hpc Hq
          obtain ⟨dn, hdn⟩ : ∃ x, x = missDone mk (decide (left.length = 0)) := ⟨_, rfl⟩
          obtain ⟨no, hno⟩ : ∃ x, x = missNo mk (decide (left.length = 0)) (ents nd) c q := ⟨_, rfl⟩
          have hmade : missMade mk (decide (left.length = 0)) (ents nd) c q = (!dn && (no == 0)) := by
            unfold missMade missNo at *
            rw [← hdn]
            cases dn with
            | true => rfl
            | false => rw [hno, ← hdn, if_neg (by decide)]
          have hdz : dn = false → no = 0 → dirNo (ents nd) c q = 0 := fun h3 h4 => by
            unfold missNo at hno
            rw [← hdn, h3, if_neg (by decide), h4] at hno
            exact hno.symm
          unfold UndoR at hpc
          rw [hmade, ← hdn, ← hno] at hpc
          rw [← hdn, ← hno] at hrn
          have Hjoin := Lib.hid hjoin
          have Hdz := Lib.hid hdz
          clear hjoin h1 h2 hjl hq hqq hdn hno hmade hdz
          by_cases h0 : no = 0
          · subst h0
            rw [show errV 0 = .nilIface from rfl] at hpc
            rw [if_neg (fun x => x rfl)] at hrn
            cases dn with
            | true =>
              rw [if_pos rfl] at hrn
              simp only [show ((!true && ((0 : Nat) == 0)) = true) = False from by simp, if_false] at hpc
              have Hrn := Lib.hid hrn
              have Hpc := Lib.hid hpc
              clear hrn hpc
              go_upto_region 4 with fail
              rw [← Hw1.out]
              go_wp2_with (first
                | (go_at_call 35; refine (Hjoin.out _).mono ?_; rintro r w5 ⟨rfl, rfl⟩)
                | (go_at_call 36; refine Hpc.out.mono ?_; rintro r w3 ⟨rfl, nd', v', g2, g3, g4, g5, g6, g7⟩
                   have H3 := Lib.hid (Ht.out.miss g3 g4 g5 g6 g7)
                   have G2 := Lib.hid g2
                   clear g2 g3 g4 g5 g6 g7)
                | (go_at_call 37; refine (told_make_any _ _ H3.out.blk).mono ?_; rintro r w5 ⟨rfl, rfl⟩))
              go_ret2
              refine ⟨nd', v', _, _, _, ?_, H3.out.tree, ?_, H3.out.turn, H3.out.blk, ?_, ?_⟩
              · rw [Hrn.out]; exact G2.out
              · rw [Hrn.out]; exact H3.out.made
              · rw [Hrn.out]; exact Hml2.out
              · rw [Hrn.out]; rfl
            | false =>
              obtain ⟨hm0, hp0⟩ := dirNo_zero (Hdz.out rfl rfl)
              have hqz : q.length ≤ 255 := by
                have h3 := checkNo_small (itselfNo_check (putNo_zero hp0).1)
                rw [dirE_path] at h3
                exact h3
              have hln := (laid_len_new (l := ents nd) (e := dirE q) (by rw [dirE_path]; exact Hq.out)).1
              rw [if_neg (by decide)] at hrn
              simp only [show ((!false && ((0 : Nat) == 0)) = true) = True from by simp, if_true] at hpc
              have Hrn := Lib.hid hrn
              have Hpc := Lib.hid hpc
              have Hqz := Lib.hid hqz
              have Hln := Lib.hid hln
              clear hrn hpc hm0 hp0 hqz hln
              go_upto_region 4 with fail
              rw [← Hw1.out]
              go_wp2_with (first
                | (go_at_call 35; refine (Hjoin.out _).mono ?_; rintro r w5 ⟨rfl, rfl⟩)
                | (go_at_call 36; refine Hpc.out.mono ?_; rintro r w3 ⟨rfl, nd', v', g2, g3, g4, g5, g6, g7⟩
                   have h3 := Ht.out.miss g3 g4 g5 g6 g7
                   obtain ⟨_, g1, _, _, _, _, _, _⟩ := walkM_cells h3.blk
                   have H3 := Lib.hid h3
                   have G2 := Lib.hid g2
                   clear g2 g3 g4 g5 g6 g7 h3)
                | (go_at_call 37; refine (told_make_any _ _ H3.out.blk).mono ?_; rintro r w5 ⟨rfl, rfl⟩))
              go_roundw
              case rel => exact ⟨_, _, _, _, _, _, _, _, H3.out, by rw [G2.out]; exact Here.made HG.out, Hqz.out, Hl2.out, Hh.out, by have := HN.out; omega, by rw [G2.out, Hln.out, List.length_append]; have := Hml.out; simp; omega, by rw [G2.out]; exact Hrn.out.symm⟩
              case measure =>
                rw [walkMeasM_eq H3.out.blk, walkMeasM_eq Hw.out.blk, needF_cons]
                omega
          · rw [if_pos h0] at hrn
            simp only [show ((!dn && (no == 0)) = true) = False from by simp [h0], if_false] at hpc
            rw [errV_pos h0] at hpc
            have H0 := Lib.hid h0
            have Hrn := Lib.hid hrn
            have Hpc := Lib.hid hpc
            clear hrn hpc h0
            go_upto_region 4 with fail
            rw [← Hw1.out]
            go_wp2_with (first
              | (go_at_call 35; refine (Hjoin.out _).mono ?_; rintro r w5 ⟨rfl, rfl⟩)
              | (go_at_call 36; refine Hpc.out.mono ?_; rintro r w3 ⟨rfl, nd', v', g2, g3, g4, g5, g6, g7⟩
                 have H3 := Lib.hid (Ht.out.miss g3 g4 g5 g6 g7)
                 have G2 := Lib.hid g2
                 clear g2 g3 g4 g5 g6 g7))
            go_ret2
            refine ⟨nd', v', _, _, _, ?_, H3.out.tree, ?_, H3.out.turn, H3.out.blk, ?_, ?_⟩
            · rw [Hrn.out]; exact G2.out
            · rw [Hrn.out]; exact H3.out.made
            · rw [Hrn.out]; exact Hml2.out
            · rw [Hrn.out]
              refine ⟨H0.out, ?_⟩
              rw [errV_pos H0.out]
              rfl
      · have ht := hW.tail
        have e1 : tailO ad cap = some ⟨ad.block, ad.off + 1, none⟩ := by unfold tailO; rw [if_neg hcap]; rfl
        rw [e1] at ht
        obtain ⟨w1, hw1⟩ : ∃ x, x = wr.setCell ⟨Wk, 2, none⟩ (.slice (some ⟨ad.block, ad.off + 1, none⟩) left.length (cap - 1)) := ⟨_, rfl⟩
        rw [← hw1] at ht
        obtain ⟨d0, d1, _, _, _, _, _, _⟩ := walkM_cells ht.blk
        have df1 := walkM_frozen ht.blk 1
        have Hw := Lib.hid hW
        have Ht := Lib.hid ht
        have HR := Lib.hid hR
        have Hl2 := Lib.hid hl2
        have HN := Lib.hid hN
        have Hw1 := Lib.hid hw1
        have Hh := Lib.hid hh
        have Ha := Lib.hid ha
        have Hc := Lib.hid hc40
        have Hge := Lib.hid hnd
        have Hhere := Lib.hid hhere
        have Hml := Lib.hid hml
        have Hml2 := Lib.hid hml2
        have HG := Lib.hid ht.tree.good
        clear hW ht hR hl2 hN hw1 hh ha hc40 hnd hl e1 hhere hml hml2
        by_cases h1 : c = [46]
        · subst h1
          have b1 : ((bs [46]).toList == [46]) = true := eqB_t (by rw [bs_toList])
          go_upto_region 4 with fail
          rw [← Hw1.out]
          go_wp2_with (first
            | (go_at_call 37; refine (told_make_any _ _ Ht.out.blk).mono ?_; rintro r w5 ⟨rfl, rfl⟩))
          go_roundw
          case rel => exact ⟨_, _, _, _, _, _, _, _, Ht.out, Hhere.out, Ha.out, Hl2.out, Hh.out, by have := HN.out; omega, Hml.out, by rw [← HR.out, makeF_dot]⟩
          case measure =>
            rw [walkMeasM_eq Ht.out.blk, walkMeasM_eq Hw.out.blk, needF_cons]
            omega
        by_cases h2 : c = [46, 46]
        · subst h2
          have b1 : ((bs [46, 46]).toList == [46]) = false := eqB_f (by rw [bs_toList]; decide)
          have b2 : ((bs [46, 46]).toList == [46, 46]) = true := eqB_t (by rw [bs_toList])
          have hpar := fun W => parent_any (bs a) W (by rw [bs_size]; have := Ha.out; omega)
          rw [bs_toList] at hpar
          have Hpar := Lib.hid hpar
          have Ht2 := Lib.hid (Ht.out.setAt (parent a))
          obtain ⟨w2, hw2⟩ : ∃ x, x = w1.setCell ⟨Wk, 1, none⟩ (.string (bs (parent a))) := ⟨_, rfl⟩
          rw [← hw2] at Ht2
          obtain ⟨_, g1, _, _, _, _, _, _⟩ := walkM_cells Ht2.out.blk
          have Hw2 := Lib.hid hw2
          clear hpar hw2
          go_upto_region 4 with fail
          rw [← Hw1.out]
          go_upto_region 15 with (go_at_call 34; refine (Hpar.out _).mono ?_; rintro r w5 ⟨rfl, rfl⟩)
          rw [← Hw2.out]
          go_wp2_with (first
            | (go_at_call 37; refine (told_make_any _ _ Ht2.out.blk).mono ?_; rintro r w5 ⟨rfl, rfl⟩))
          go_roundw
          case rel => exact ⟨_, _, _, _, _, _, _, _, Ht2.out, Here.parent HG.out Hhere.out, Nat.le_trans (parent_length a) Ha.out, Hl2.out, Hh.out, by have := HN.out; omega, Hml.out, by rw [← HR.out, makeF_up]⟩
          case measure =>
            rw [walkMeasM_eq Ht2.out.blk, walkMeasM_eq Hw.out.blk, needF_cons]
            omega
        have b1 : ((bs c).toList == [46]) = false := eqB_f (by rw [bs_toList]; exact h1)
        have b2 : ((bs c).toList == [46, 46]) = false := eqB_f (by rw [bs_toList]; exact h2)
        have hjl := joinP_length a c
        have hjoin := fun W => join_any (bs a) (bs c) W (by rw [bs_size, bs_size]; have := Ha.out; have := Hc.out; omega)
        rw [bs_toList, bs_toList] at hjoin
        have hll : left.length ≤ 1099511627776 := by have := HN.out; have := Hge.out; omega
        cases hq : lookE (ents nd) (joinP a c) with
        | some e =>
          have hrn := makeF_there HG.out (mk := mk) (md := md) (left := left) Hh.out h1 h2 hq
          rw [HR.out] at hrn
          have hqz := path_size HG.out hq
          have hpc := piece_there_any (bs c) (joinP a c) e w1 Ht.out.tree Ht.out.blk Ht.out.la (fun e2 => Ht.out.out _ rfl (by rw [e2]; exact List.mem_cons_self ..)) (by omega) hll Hh.out hq
          have Hq := Lib.hid hq
          obtain ⟨q, hqq⟩ : ∃ q, q = joinP a c := ⟨_, rfl⟩
          rw [← hqq] at hrn hjl hjoin hpc Hq hqz
          have Hjoin := Lib.hid hjoin
          have Hpc := Lib.hid hpc
          clear hjoin hpc h1 h2 hjl hq hqq
          cases hpf : pieceM mk a q left hops e with
          | error n =>
            have hn0 := pieceM_err hpf
            have Hn0 := Lib.hid hn0
            have Hn := Lib.hid (errV_pos hn0)
            rw [hpf] at hrn
            have Hrn := Lib.hid hrn
            have Hpf := Lib.hid hpf
            clear hrn hpf hn0
            go_upto_region 4 with fail
            rw [← Hw1.out]
            go_wp2_with (first
              | (go_at_call 35; refine (Hjoin.out _).mono ?_; rintro r w5 ⟨rfl, rfl⟩)
              | (go_at_call 36; refine Hpc.out.mono ?_; rintro r w3 ⟨hb3, hr3⟩; rw [Hpf.out] at hr3; simp only [] at hr3; obtain ⟨hr3, hk3⟩ := hr3; rw [Hn.out] at hr3; subst hr3
                 have H3 := Lib.hid (Ht.out.piece hb3 hk3 (Ht.out.la.but hb3 (fun b hb2 hx => Ht.out.out b hb2 (by rw [List.mem_singleton.1 hx]; exact List.mem_cons_self ..))) (.inl rfl))
                 clear hb3 hk3))
            go_ret2
            refine ⟨nd, v, _, _, _, ?_, H3.out.tree, ?_, H3.out.turn, H3.out.blk, ?_, ?_⟩
            · rw [Hrn.out]
            · rw [Hrn.out]; exact H3.out.made
            · rw [Hrn.out]; exact Hml2.out
            · rw [Hrn.out]
              refine ⟨Hn0.out, ?_⟩
              rw [Hn.out]
              rfl
          | ok z =>
            cases z with
            | none =>
              rw [hpf] at hrn
              have Hrn := Lib.hid hrn
              have Hpf := Lib.hid hpf
              clear hrn hpf
              go_upto_region 4 with fail
              rw [← Hw1.out]
              go_wp2_with (first
                | (go_at_call 35; refine (Hjoin.out _).mono ?_; rintro r w5 ⟨rfl, rfl⟩)
                | (go_at_call 36; refine Hpc.out.mono ?_; rintro r w3 ⟨hb3, hr3⟩; rw [Hpf.out] at hr3; simp only [] at hr3; obtain ⟨rfl, hk3⟩ := hr3
                   have H3 := Lib.hid (Ht.out.piece hb3 hk3 (Ht.out.la.but hb3 (fun b hb2 hx => Ht.out.out b hb2 (by rw [List.mem_singleton.1 hx]; exact List.mem_cons_self ..))) (.inl rfl))
                   clear hb3 hk3)
                | (go_at_call 37; refine (told_make_any _ _ H3.out.blk).mono ?_; rintro r w5 ⟨rfl, rfl⟩))
              go_ret2
              refine ⟨nd, v, _, _, _, ?_, H3.out.tree, ?_, H3.out.turn, H3.out.blk, ?_, ?_⟩
              · rw [Hrn.out]
              · rw [Hrn.out]; exact H3.out.made
              · rw [Hrn.out]; exact Hml2.out
              · rw [Hrn.out]; rfl
            | some z =>
              obtain ⟨a', left', hops'⟩ := z
              obtain ⟨e1, e2, e3, e4, e5⟩ := pieceM_on HG.out Hq.out Hh.out Hhere.out Ha.out (by omega) Hl2.out hpf
              rw [hpf] at hrn
              have Hrn := Lib.hid hrn
              have Hpf := Lib.hid hpf
              have E1 := Lib.hid e1
              have E2 := Lib.hid e2
              have E3 := Lib.hid e3
              have Hnd := Lib.hid e4
              have E5 := Lib.hid e5
              clear hrn hpf e1 e2 e3 e4 e5
              go_upto_region 4 with fail
              rw [← Hw1.out]
              go_wp2_with (first
                | (go_at_call 35; refine (Hjoin.out _).mono ?_; rintro r w5 ⟨rfl, rfl⟩)
                | (go_at_call 36; refine Hpc.out.mono ?_; rintro r w3 ⟨hb3, hr3⟩; rw [Hpf.out] at hr3; simp only [] at hr3; obtain ⟨rfl, o', cap', hk3, hl3, ho3⟩ := hr3
                   have h3 := Ht.out.piece hb3 hk3 hl3 ho3
                   obtain ⟨_, g1, _, _, _, _, _, _⟩ := walkM_cells h3.blk
                   have H3 := Lib.hid h3
                   clear hb3 hk3 hl3 ho3 h3)
                | (go_at_call 37; refine (told_make_any _ _ H3.out.blk).mono ?_; rintro r w5 ⟨rfl, rfl⟩))
              go_roundw
              case rel => exact ⟨_, _, _, _, _, _, _, _, H3.out, E5.out, E2.out, E3.out, E1.out, by have := HN.out; have := Hnd.out; omega, Hml.out, Hrn.out.symm⟩
              case measure =>
                rw [walkMeasM_eq H3.out.blk, walkMeasM_eq Hw.out.blk, needF_cons]
                have := Hnd.out
                omega
        | none =>
          have hrn := makeF_miss (mk := mk) (hops := hops) (md := md) (left := left) h1 h2 hq
          rw [HR.out] at hrn
          have hpc := piece_missing_any (bs c) (joinP a c) w1 Ht.out.tree Ht.out.blk Ht.out.nWk hll Ht.out.made Ht.out.size ⟨Ht.out.nBm, fun e2 => Ht.out.ne2 (List.mem_singleton.1 e2)⟩ ⟨Ht.out.nBd, fun e2 => Ht.out.ne3 (List.mem_singleton.1 e2)⟩ (fun k hk => ⟨Ht.out.nRow hk, fun e2 => (Ht.out.ne4 hk).1 (List.mem_singleton.1 e2)⟩) Ht.out.ne1 (by have := Hml2.out; omega) (by rw [bs_size]; have := Hc.out; omega) (by have := Ha.out; have := Hc.out; omega) hq
          rw [bs_toList] at hpc
          have Hq := Lib.hid hq
          obtain ⟨q, hqq⟩ : ∃ q, q = joinP a c := ⟨_, rfl⟩
          rw [← hqq] at hrn hjl hjoin hpc Hq
          obtain ⟨dn, hdn⟩ : ∃ x, x = missDone mk (decide (left.length = 0)) := ⟨_, rfl⟩
          obtain ⟨no, hno⟩ : ∃ x, x = missNo mk (decide (left.length = 0)) (ents nd) c q := ⟨_, rfl⟩
          have hmade : missMade mk (decide (left.length = 0)) (ents nd) c q = (!dn && (no == 0)) := by
            unfold missMade missNo at *
            rw [← hdn]
            cases dn with
            | true => rfl
            | false => rw [hno, ← hdn, if_neg (by decide)]
          have hdz : dn = false → no = 0 → dirNo (ents nd) c q = 0 := fun h3 h4 => by
            unfold missNo at hno
            rw [← hdn, h3, if_neg (by decide), h4] at hno
            exact hno.symm
          unfold UndoR at hpc
          rw [hmade, ← hdn, ← hno] at hpc
          rw [← hdn, ← hno] at hrn
          have Hjoin := Lib.hid hjoin
          have Hdz := Lib.hid hdz
          clear hjoin h1 h2 hjl hq hqq hdn hno hmade hdz
          by_cases h0 : no = 0
          · subst h0
            rw [show errV 0 = .nilIface from rfl] at hpc
            rw [if_neg (fun x => x rfl)] at hrn
            cases dn with
            | true =>
              rw [if_pos rfl] at hrn
              simp only [show ((!true && ((0 : Nat) == 0)) = true) = False from by simp, if_false] at hpc
              have Hrn := Lib.hid hrn
              have Hpc := Lib.hid hpc
              clear hrn hpc
              go_upto_region 4 with fail
              rw [← Hw1.out]
              go_wp2_with (first
                | (go_at_call 35; refine (Hjoin.out _).mono ?_; rintro r w5 ⟨rfl, rfl⟩)
                | (go_at_call 36; refine Hpc.out.mono ?_; rintro r w3 ⟨rfl, nd', v', g2, g3, g4, g5, g6, g7⟩
                   have H3 := Lib.hid (Ht.out.miss g3 g4 g5 g6 g7)
                   have G2 := Lib.hid g2
                   clear g2 g3 g4 g5 g6 g7)
                | (go_at_call 37; refine (told_make_any _ _ H3.out.blk).mono ?_; rintro r w5 ⟨rfl, rfl⟩))
              go_ret2
              refine ⟨nd', v', _, _, _, ?_, H3.out.tree, ?_, H3.out.turn, H3.out.blk, ?_, ?_⟩
              · rw [Hrn.out]; exact G2.out
              · rw [Hrn.out]; exact H3.out.made
              · rw [Hrn.out]; exact Hml2.out
              · rw [Hrn.out]; rfl
            | false =>
              obtain ⟨hm0, hp0⟩ := dirNo_zero (Hdz.out rfl rfl)
              have hqz : q.length ≤ 255 := by
                have h3 := checkNo_small (itselfNo_check (putNo_zero hp0).1)
                rw [dirE_path] at h3
                exact h3
              have hln := (laid_len_new (l := ents nd) (e := dirE q) (by rw [dirE_path]; exact Hq.out)).1
              rw [if_neg (by decide)] at hrn
              simp only [show ((!false && ((0 : Nat) == 0)) = true) = True from by simp, if_true] at hpc
              have Hrn := Lib.hid hrn
              have Hpc := Lib.hid hpc
              have Hqz := Lib.hid hqz
              have Hln := Lib.hid hln
              clear hrn hpc hm0 hp0 hqz hln
              go_upto_region 4 with fail
              rw [← Hw1.out]
              go_wp2_with (first
                | (go_at_call 35; refine (Hjoin.out _).mono ?_; rintro r w5 ⟨rfl, rfl⟩)
                | (go_at_call 36; refine Hpc.out.mono ?_; rintro r w3 ⟨rfl, nd', v', g2, g3, g4, g5, g6, g7⟩
                   have h3 := Ht.out.miss g3 g4 g5 g6 g7
                   obtain ⟨_, g1, _, _, _, _, _, _⟩ := walkM_cells h3.blk
                   have H3 := Lib.hid h3
                   have G2 := Lib.hid g2
                   clear g2 g3 g4 g5 g6 g7 h3)
                | (go_at_call 37; refine (told_make_any _ _ H3.out.blk).mono ?_; rintro r w5 ⟨rfl, rfl⟩))
              go_roundw
              case rel => exact ⟨_, _, _, _, _, _, _, _, H3.out, by rw [G2.out]; exact Here.made HG.out, Hqz.out, Hl2.out, Hh.out, by have := HN.out; omega, by rw [G2.out, Hln.out, List.length_append]; have := Hml.out; simp; omega, by rw [G2.out]; exact Hrn.out.symm⟩
              case measure =>
                rw [walkMeasM_eq H3.out.blk, walkMeasM_eq Hw.out.blk, needF_cons]
                omega
          · rw [if_pos h0] at hrn
            simp only [show ((!dn && (no == 0)) = true) = False from by simp [h0], if_false] at hpc
            rw [errV_pos h0] at hpc
            have H0 := Lib.hid h0
            have Hrn := Lib.hid hrn
            have Hpc := Lib.hid hpc
            clear hrn hpc h0
            go_upto_region 4 with fail
            rw [← Hw1.out]
            go_wp2_with (first
              | (go_at_call 35; refine (Hjoin.out _).mono ?_; rintro r w5 ⟨rfl, rfl⟩)
              | (go_at_call 36; refine Hpc.out.mono ?_; rintro r w3 ⟨rfl, nd', v', g2, g3, g4, g5, g6, g7⟩
                 have H3 := Lib.hid (Ht.out.miss g3 g4 g5 g6 g7)
                 have G2 := Lib.hid g2
                 clear g2 g3 g4 g5 g6 g7))
            go_ret2
            refine ⟨nd', v', _, _, _, ?_, H3.out.tree, ?_, H3.out.turn, H3.out.blk, ?_, ?_⟩
            · rw [Hrn.out]; exact G2.out
            · rw [Hrn.out]; exact H3.out.made
            · rw [Hrn.out]; exact Hml2.out
            · rw [Hrn.out]
              refine ⟨H0.out, ?_⟩
              rw [errV_pos H0.out]
              rfl
end
section
open Go.RowKit Go.Maps Go.Shelf
open Go.Lib hiding intOf size_eq
theorem TurnX.nil {ex : List Nat} {T rt rm : Nat} {nd nd' : List Nd} {w w' : World} (h : TurnX ex T rt rm nd nd' w w') (he : ∀ k ∈ ex, w.heap.size ≤ k) : Turned T rt rm nd nd' w w' :=
  ⟨h.os, h.tape, h.output, h.size, fun k hk hn => h.keep k hk hn (fun e => by have := he k e; omega), h.blk⟩
theorem walkM_setF {w : World} {Wk T : Nat} {a : ByteArray} {lv : Value} {hops : Int} {mk : Bool} {mf : Value} (h : w.heap[Wk]? = some (walkM T a lv hops mk mf)) (f : Value) : (w.setCell ⟨Wk, 6, none⟩ f).heap[Wk]? = some (walkM T a lv hops mk f) := by
  unfold walkM at *
  exact Go.heap_setCell_same w Wk 6 _ _ _ h
theorem MadeAt.out {w : World} {base Bm Bd : Nat} {mk : Bool} {md : List (List UInt8)} {v : Value} {T rt rm tb : Nat} {nd : List Nd} (h : MadeAt w base Bm Bd mk md v) (ht : TreeAt w T rt rm tb nd) :
    ¬ IsBlk T rt rm nd Bm ∧ ¬ IsBlk T rt rm nd Bd ∧ ∀ k ∈ v.ownBlock.toList, ¬ IsBlk T rt rm nd k := by
  refine ⟨fun hx => ?_, fun hx => ?_, fun k hk hx => ?_⟩
  · rcases tree_type ht hx h.bm with e | e <;> exact absurd e (by decide)
  · rcases tree_type ht hx h.bd with e | e <;> exact absurd e (by decide)
  · rcases h.tx.2 with ⟨rfl, _⟩ | ⟨g, cp, cur, rfl, hb, hg, _⟩
    · simp [Value.ownBlock] at hk
    · simp [Value.ownBlock] at hk
      subst hk
      rcases tree_type ht hx hg with e | e <;> exact absurd e (by decide)
theorem walkM_out {w : World} {T rt rm tb Wk : Nat} {nd : List Nd} {a : ByteArray} {lv : Value} {hops : Int} {mk : Bool} {mf : Value} (ht : TreeAt w T rt rm tb nd) (h : w.heap[Wk]? = some (walkM T a lv hops mk mf)) : ¬ IsBlk T rt rm nd Wk := fun hx => by
  rcases tree_type ht hx h with e | e <;> exact absurd e (by decide)
theorem undo_step {L : List Ent} {md : List (List UInt8)} {j : Nat} {q : List UInt8} (h : md[j]? = some q) : undoL L (md.drop j) = takeL (undoL L (md.drop (j + 1))) q := by
  have e : md.drop j = q :: md.drop (j + 1) := by
    obtain ⟨hl, rfl⟩ := List.getElem?_eq_some_iff.1 h
    exact List.drop_eq_getElem_cons hl
  unfold undoL
  rw [e, List.reverse_cons, List.foldl_append]
  rfl
/-- what is made has a short path -/
theorem makeF_small {mk : Bool} : ∀ (f : Nat) (L : List Ent) (a : List UInt8) (left : List (List UInt8)) (hops : Nat) (md : List (List UInt8)), (∀ q ∈ md, q.length ≤ 255) → ∀ q ∈ (makeF mk f L a left hops md).2.1, q.length ≤ 255
  | 0, L, a, left, hops, md, h => h
  | f + 1, L, a, [], hops, md, h => h
  | f + 1, L, a, c :: left, hops, md, h => by
    unfold makeF
    by_cases h1 : c = [46]
    · rw [if_pos h1]; exact makeF_small f L a left hops md h
    rw [if_neg h1]
    by_cases h2 : c = [46, 46]
    · rw [if_pos h2]; exact makeF_small f L (parent a) left hops md h
    rw [if_neg h2]
    cases hl : lookE L (joinP a c) with
    | none =>
      simp only []
      by_cases h3 : mayNo c (joinP a c) ≠ 0
      · rw [if_pos h3]; exact h
      rw [if_neg h3]
      by_cases h4 : mk = false ∧ left = []
      · rw [if_pos h4]; exact h
      rw [if_neg h4]
      by_cases h5 : putNo L (dirE (joinP a c)) ≠ 0
      · rw [if_pos h5]; exact h
      rw [if_neg h5]
      refine makeF_small f _ (joinP a c) left hops (md ++ [joinP a c]) fun q hq => ?_
      rcases List.mem_append.1 hq with hq | hq
      · exact h q hq
      · rw [List.mem_singleton.1 hq]
        have h6 := checkNo_small (itselfNo_check (putNo_zero (by omega : putNo L (dirE (joinP a c)) = 0)).1)
        rw [dirE_path] at h6
        exact h6
    | some e =>
      simp only []
      by_cases k1 : e.k = 1
      · rw [if_pos k1]; exact makeF_small f L (joinP a c) left hops md h
      rw [if_neg k1]
      by_cases k2 : e.k = 2
      · rw [if_pos k2]
        split <;> exact h
      rw [if_neg k2]
      by_cases k3 : hops = 40
      · rw [if_pos k3]; exact h
      rw [if_neg k3]
      exact makeF_small f L _ _ (hops + 1) md h
theorem makeF_err {mk : Bool} {n : Nat} : ∀ (f : Nat) (L : List Ent) (a : List UInt8) (left : List (List UInt8)) (hops : Nat) (md : List (List UInt8)), (makeF mk f L a left hops md).2.2 = .error n → n ≠ 0
  | 0, L, a, left, hops, md, h => by cases h
  | f + 1, L, a, [], hops, md, h => by cases h
  | f + 1, L, a, c :: left, hops, md, h => by
    unfold makeF at h
    by_cases h1 : c = [46]
    · rw [if_pos h1] at h; exact makeF_err f L a left hops md h
    rw [if_neg h1] at h
    by_cases h2 : c = [46, 46]
    · rw [if_pos h2] at h; exact makeF_err f L (parent a) left hops md h
    rw [if_neg h2] at h
    cases hl : lookE L (joinP a c) with
    | none =>
      rw [hl] at h
      simp only [] at h
      by_cases h3 : mayNo c (joinP a c) ≠ 0
      · rw [if_pos h3] at h; injection h with h; rw [← h]; exact h3
      rw [if_neg h3] at h
      by_cases h4 : mk = false ∧ left = []
      · rw [if_pos h4] at h; cases h
      rw [if_neg h4] at h
      by_cases h5 : putNo L (dirE (joinP a c)) ≠ 0
      · rw [if_pos h5] at h; injection h with h; rw [← h]; exact h5
      rw [if_neg h5] at h
      exact makeF_err f _ (joinP a c) left hops (md ++ [joinP a c]) h
    | some e =>
      rw [hl] at h
      simp only [] at h
      by_cases k1 : e.k = 1
      · rw [if_pos k1] at h; exact makeF_err f L (joinP a c) left hops md h
      rw [if_neg k1] at h
      by_cases k2 : e.k = 2
      · rw [if_pos k2] at h
        split at h
        · injection h with h; rw [← h]; decide
        · cases h
      rw [if_neg k2] at h
      by_cases k3 : hops = 40
      · rw [if_pos k3] at h; injection h with h; rw [← h]; decide
      rw [if_neg k3] at h
      exact makeF_err f L _ _ (hops + 1) md h
/-- what undone answers -/
def UndoneR (T rt rm tb : Nat) (nd : List Nd) (R : List Ent × List (List UInt8) × Except Nat (List UInt8)) (w : World) (r : Ending) (w' : World) : Prop :=
  match R.2.2 with
    | .error n => n ≠ 0 ∧ r = .returned (.tuple #[.string ⟨#[]⟩, errV n]) ∧ ∃ nd', ents nd' = undoL R.1 R.2.1 ∧ TreeAt w' T rt rm tb nd' ∧ Turned T rt rm nd nd' w w'
    | .ok q => r = .returned (.tuple #[.string (bs q), .nilIface]) ∧ ∃ nd', ents nd' = R.1 ∧ TreeAt w' T rt rm tb nd' ∧ Turned T rt rm nd nd' w w'
/-- what is taken back: the relation of undone's loop; the pieces j and above are gone -/
def BackM (w : World) (tb Wk Bm Bd T rt rm : Nat) (nd0 : List Nd) (mk : Bool) (L : List Ent) (md : List (List UInt8)) (v : Value) (i : Int) (wr : World) : Prop :=
  ∃ (j : Nat) (nd : List Nd) (lv : Value) (a : ByteArray) (hops : Int), i = (j : Int) - 1 ∧ j ≤ md.length ∧ ents nd = undoL L (md.drop j) ∧ TreeAt wr T rt rm tb nd ∧ MadeAt wr w.heap.size Bm Bd mk md v ∧ TurnX [] T rt rm nd0 nd w wr ∧ wr.heap[Wk]? = some (walkM T a lv hops mk (undoF Bm Bd))
set_option maxRecDepth 100000 in
set_option maxHeartbeats 4000000 in
theorem undone_any {tb Wk T rt rm cap : Nat} {nd : List Nd} {mk : Bool} {o : Option Addr} {left : List (List UInt8)} {w0 : World} (w : World) (ht : TreeAt w0 T rt rm tb nd) (hb : Below w0.heap.size w0 w) (hw : w.heap[Wk]? = some (walkM T ⟨#[]⟩ (.slice o left.length cap) (0 : Nat) mk (.func (.func (missF mk)) #[] #[]))) (hlo : w0.heap.size ≤ Wk) (hla : LeftA w o cap left) (ho : ∀ ad, o = some ad → w0.heap.size ≤ ad.block ∧ ad.block ≠ Wk)
    (hl : ∀ c ∈ left, c.length ≤ 1099511600000) (hN : needF left.length 0 ≤ 1099511627776) :
    Calls Tryz.prog 24 #[.pointer (some ⟨Wk, 0, none⟩)] w fun r w' => UndoneR T rt rm tb nd (makeF mk (needF left.length 0) (ents nd) [] left 0 []) w0 r w' := by
  obtain ⟨fid, hmf⟩ : ∃ x, x = missF mk := ⟨_, rfl⟩
  obtain ⟨mf, hmf2⟩ : ∃ x, x = Value.func (.func fid) #[] #[] := ⟨_, rfl⟩
  rw [← hmf, ← hmf2] at hw
  obtain ⟨w1, hw1⟩ : ∃ x, x = w.alloc (.cells #[.slice none 0 0] 43) := ⟨_, rfl⟩
  obtain ⟨w2, hw2⟩ : ∃ x, x = w1.alloc (.cells #[mf] 45) := ⟨_, rfl⟩
  have hs1 : w1.heap.size = w.heap.size + 1 := by rw [hw1]; simp
  have hs2 : w2.heap.size = w.heap.size + 2 := by rw [hw2]; simp [hs1]
  have hWl := heap_lt hw
  have hbut1 : But [] w w1 := by rw [hw1]; exact (But.refl [] w).alloc _
  have hbut2 : But [] w1 w2 := by rw [hw2]; exact (But.refl [] w1).alloc _
  have hbd1 : Boxed w1 w.heap.size 43 (.slice none 0 0) := by rw [hw1]; exact Boxed.new _ _ _
  have hbm2 : Boxed w2 (w.heap.size + 1) 45 mf := by
    have := Boxed.new w1 45 mf
    rw [← hw2, hs1] at this
    exact this
  have hbd2 : Boxed w2 w.heap.size 43 (.slice none 0 0) := (hbut2.block _ (by omega) (by simp)).trans hbd1
  have hwk2 : w2.heap[Wk]? = some (walkM T ⟨#[]⟩ (.slice o left.length cap) (0 : Nat) mk mf) := ((hbut2.block _ (by omega) (by simp)).trans (hbut1.block _ hWl (by simp))).trans hw
  obtain ⟨w3, hw3⟩ : ∃ x, x = w2.setCell ⟨Wk, 6, none⟩ (undoF (w.heap.size + 1) w.heap.size) := ⟨_, rfl⟩
  have hbut3 : But [Wk] w2 w3 := by rw [hw3]; exact (But.refl [Wk] w2).setCell (.inl (List.mem_singleton.2 rfl)) _
  have hwk3 : w3.heap[Wk]? = some (walkM T ⟨#[]⟩ (.slice o left.length cap) (0 : Nat) mk (undoF (w.heap.size + 1) w.heap.size)) := by rw [hw3]; exact walkM_setF hwk2 _
  have h03 : But [] w0 w3 := by
    refine ((((But.refl [] w0).below hb).trans hbut1 (fun i hi => .inl hi)).trans hbut2 (fun i hi => .inl hi)).trans hbut3 (fun i hi => .inr ?_)
    rw [List.mem_singleton.1 hi]; exact hlo
  have ht3 : TreeAt w3 T rt rm tb nd := ht.same fun b hb2 => h03.block b (ht.lt hb2) (by simp)
  have hnw : ¬ IsBlk T rt rm nd Wk := fun hx => by have := ht.lt hx; omega
  have hrun : RunM w0 tb Wk (w.heap.size + 1) w.heap.size T rt rm nd mk (makeF mk (needF left.length 0) (ents nd) [] left 0 []) w3 := by
    refine ⟨nd, [], left, 0, [], .slice none 0 0, o, cap, ⟨hwk3, ?_, ?_, ?_, ⟨?_, ?_, ⟨rfl, .inl ⟨rfl, rfl⟩⟩, ⟨by have := hb.size; omega, by have := hb.size; omega⟩⟩, ht3, TurnX.of_but h03, hlo⟩, .inl rfl, by simp, hl, by omega, hN, by simp, rfl⟩
    · exact ((hla.but hbut1 (fun _ _ hx => by cases hx)).but hbut2 (fun _ _ hx => by cases hx)).but hbut3 (fun ad ha hx => (ho ad ha).2 (List.mem_singleton.1 hx))
    · intro ad ha hx
      have hl1 := hla.lt ad ha
      rcases List.mem_cons.1 hx with e | e
      · exact (ho ad ha).2 e
      rcases List.mem_cons.1 e with e | e
      · omega
      · simp [Value.ownBlock] at e
    · intro ad ha hx
      have := ht.lt hx
      have := (ho ad ha).1
      omega
    · rw [← hmf, ← hmf2]
      exact (hbut3.block _ (by omega) (fun e => by have := List.mem_singleton.1 e; omega)).trans hbm2
    · exact (hbut3.block _ (by omega) (fun e => by have := List.mem_singleton.1 e; omega)).trans hbd2
  have hgo := run_make_any w3 hrun
  have hsmall := makeF_small (mk := mk) (needF left.length 0) (ents nd) [] left 0 [] (by simp)
  have herr := fun n => makeF_err (mk := mk) (n := n) (needF left.length 0) (ents nd) [] left 0 []
  generalize makeF mk (needF left.length 0) (ents nd) [] left 0 [] = R at *
  obtain ⟨L, md, ans⟩ := R
  obtain ⟨x0, x1, x2, x3, x4, x5, x6, x7⟩ := walkM_cells hw
  have hd1 : w1.cell? ⟨Wk, 6, none⟩ = some mf := by
    unfold World.cell? at x6 ⊢
    rw [show w1.heap[Wk]? = w.heap[Wk]? from hbut1.block _ hWl (by simp)]
    exact x6
  have hf2 := walkM_frozen hwk2 6
  have hd2 := (walkM_cells hwk2).2.2.2.2.2.2.1
  subst hmf2
  have Herr := Lib.hid herr
  have Hgo := Lib.hid hgo
  have Hw1 := Lib.hid hw1
  have Hw2 := Lib.hid hw2
  have Hw3 := Lib.hid hw3
  have Hs1 := Lib.hid hs1
  have Hsm := Lib.hid hsmall
  have Hlo := Lib.hid hlo
  have Hsz := Lib.hid (show w0.heap.size ≤ w3.heap.size from h03.size)
  clear hgo hrun ht3 h03 hwk3 hbut3 hw3 hwk2 hbd2 hbm2 hbd1 hbut2 hbut1 hWl hs2 hw2 hs1 hw1 hN hl ho hla hw hb ht hmf x0 x1 x2 x3 x4 x5 x6 x7 hsmall hnw hlo herr
  unfold RunMR at Hgo
  unfold UndoneR
  have hlow : w0.heap.size ≤ Wk := Hlo.out
  cases ans with
  | ok q =>
    go_enter Tryz.func24, Tryz.ntmps24
    go_upto_region 2 with fail
    rw [← Hw1.out]
    go_upto_region 3 with fail
    rw [← Hw2.out]
    go_upto_region 4 with fail
    rw [Hs1.out]

    rw [show Value.func (.func 44) #[] #[.pointer (some ⟨w.heap.size + 1, 0, none⟩), .pointer (some ⟨w.heap.size, 0, none⟩)] = undoF (w.heap.size + 1) w.heap.size from rfl, ← Hw3.out]
    go_wp2_with (first
      | (go_at_call 20; refine Hgo.out.mono ?_; rintro r w4 ⟨nd1, v1, lv1, a1, hops1, g1, g2, g3, g4, g5, g6, rfl⟩
         have G1 := Lib.hid g1
         have G2 := Lib.hid g2
         have G4 := Lib.hid g4
         clear g1 g2 g3 g4 g5 g6))
    go_ret2
    exact ⟨rfl, nd1, G1.out, G2.out, G4.out.nil (by simp)⟩
  | error n =>
    obtain ⟨E, hE⟩ : ∃ x, x = errV n := ⟨_, rfl⟩
    have hn0 := Herr.out n rfl
    have hE2 := hE.trans (errV_pos hn0)
    have HE := Lib.hid hE
    have Hn0 := Lib.hid hn0
    clear hE hn0
    go_enter Tryz.func24, Tryz.ntmps24
    go_upto_region 2 with fail
    rw [← Hw1.out]
    go_upto_region 3 with fail
    rw [← Hw2.out]
    go_upto_region 4 with fail
    rw [Hs1.out]
    rw [show Value.func (.func 44) #[] #[.pointer (some ⟨w.heap.size + 1, 0, none⟩), .pointer (some ⟨w.heap.size, 0, none⟩)] = undoF (w.heap.size + 1) w.heap.size from rfl, ← Hw3.out]
    subst hE2
    go_upto_region 7 with (first
      | (go_at_call 20; refine Hgo.out.mono ?_; rintro r w4 ⟨nd1, v1, lv1, a1, hops1, g1, g2, g3, g4, g5, g6, g7⟩; obtain ⟨_, g7⟩ := g7; rw [← HE.out] at g7; subst g7
         have hbx := g3.bd.cell
         obtain ⟨o1, cap1, rfl, hla1, _⟩ := left_of_texts g3.tx
         have HB := Lib.hid (show BackM w0 tb Wk (w.heap.size + 1) w.heap.size T rt rm nd mk L md (.slice o1 md.length cap1) ((md.length : Int) - 1) w4 from ⟨md.length, nd1, lv1, a1, hops1, rfl, Nat.le_refl _, (by rw [List.drop_length]; exact g1), g2, g3, g4, g5⟩)
         have G6 := Lib.hid g6
         clear g1 g2 g3 g4 g5 hla1 g6))
    have hwr : wrap64 ((md.length : Int) - 1) = (md.length : Int) - 1 := by have := G6.out; unfold wrap64; omega
    rw [hwr]
    clear hwr hbx
    go_loopw [8] (fun iv wr => ∃ i : Int, iv = .int .i64 i ∧ BackM w0 tb Wk (w.heap.size + 1) w.heap.size T rt rm nd mk L md (.slice o1 md.length cap1) i wr) (fun iv _ => (intOf iv + 1).toNat)
    case atStart => exact ⟨_, rfl, HB.out⟩
    case round =>
      obtain ⟨i, rfl, j, nd5, lv5, a5, hops5, rfl, hj, g1, g2, g3, g4, g5⟩ := hrel
      clear HB Hgo
      cases j with
      | zero =>
        have G1 := Lib.hid g1
        have G2 := Lib.hid g2
        have G4 := Lib.hid g4
        clear g1 g2 g3 g4 g5
        go_wp2
        go_ret2
        refine ⟨Hn0.out, by rw [errV_pos Hn0.out]; rfl, nd5, G1.out, G2.out, G4.out.nil (by simp)⟩
      | succ j =>
        obtain ⟨q, hq⟩ : ∃ q, md[j]? = some q := ⟨_, List.getElem?_eq_getElem (by omega)⟩
        have hq255 := Hsm.out q (List.mem_of_getElem? hq)
        have hbx := g3.bd.cell
        obtain ⟨o5, cap5, e5, hla5, _⟩ := left_of_texts g3.tx
        injection e5 with e5 _ e6
        subst e5 e6
        obtain ⟨ad, rfl, hca⟩ := hla5.cell j q hq
        rw [show encS q = .string (bs q) from rfl] at hca
        obtain ⟨x0, _, _, _, _, _, _, _⟩ := walkM_cells g5
        have d0 : wr.drew.cell? ⟨Wk, 0, none⟩ = some (.pointer (some ⟨T, 0, none⟩)) := x0
        have db : wr.drew.cell? ⟨w.heap.size, 0, none⟩ = some (.slice (some ad) md.length cap1) := hbx
        have da : wr.drew.cell? (ad.add j) = some (.string (bs q)) := hca
        have hs : Same wr wr.drew := ⟨1, rfl⟩
        have htd : TreeAt wr.drew T rt rm tb nd5 := g2.same' hs
        have htk := take_any (bs q) wr.drew htd (by rw [bs_size]; omega)
        rw [bs_toList] at htk
        obtain ⟨tn, hsN⟩ : ∃ x, x = (takeN (ents nd5) q : Int) := ⟨_, rfl⟩
        obtain ⟨te, hsE⟩ : ∃ x, x = errV (takeNo (ents nd5) q) := ⟨_, rfl⟩
        unfold TakeR at htk
        rw [← hsN, ← hsE] at htk
        have Htk := Lib.hid htk
        have G1 := Lib.hid g1
        have G2 := Lib.hid g2
        have G3 := Lib.hid g3
        have G4 := Lib.hid g4
        have G5 := Lib.hid g5
        have Hq := Lib.hid hq
        have Hs := Lib.hid hs
        have hjn : ((j + 1 : Nat) : Int) - 1 = (j : Int) := by omega
        rw [hjn]
        have hj2 : j < md.length := by omega
        have hml := G6.out
        clear g1 g2 g3 g4 g5 htk hsN hsE hq hs htd hla5 x0 hbx hca hq255 hjn hj
        go_upto_region 9 with fail
        go_still_tail 8, (by kernel_rfl)
        go_wp2_with (first
          | (go_at_call 45; refine Htk.out.mono ?_; rintro r w6 ⟨rfl, nd6, k1, k2, k3⟩
             have K1 := Lib.hid k1
             have K2 := Lib.hid k2
             have K3 := Lib.hid k3
             clear k1 k2 k3))
        go_roundw
        case rel =>
          have hx : TurnX [] T rt rm nd5 nd6 wr w6 := TurnX.of_turned ((Turned.of_below (below_drew (Below.refl _ _))).trans K3.out)
          have hw6 : w6.heap[Wk]? = some (walkM T a5 lv5 hops5 mk (undoF (w.heap.size + 1) w.heap.size)) := (hx.keep Wk (heap_lt G5.out) (walkM_out G2.out G5.out) (by simp)).trans G5.out
          obtain ⟨n1, n2, n3⟩ := G3.out.out G2.out
          refine ⟨(j : Int) - 1, rfl, j, nd6, lv5, a5, hops5, rfl, by omega, ?_, K2.out, G3.out.turn hx ⟨n1, by simp⟩ ⟨n2, by simp⟩ (fun k hk => ⟨n3 k hk, by simp⟩), G4.out.trans hx (fun i hi => by simp at hi), hw6⟩
          rw [K1.out, G1.out, undo_step Hq.out]
        case measure => simp [intOf]
/-- what the pieces of a way are -/
theorem pieces_needF (s : ByteArray) (hs : s.size ≤ 4294967296) : needF (pieces s.data.toList).length 0 ≤ 1099511627776 := by
  have := pieces_count s
  unfold needF
  simp
  omega
theorem pieces_small (s : ByteArray) (hs : s.size ≤ 4294967296) : ∀ c ∈ pieces s.data.toList, c.length ≤ 1099511600000 := fun c hc => by
  have h1 := pieces_long hc
  have : s.data.toList.length = s.size := rfl
  omega
/-- what Make and Place answer -/
def MakeR (mk : Bool) (T rt rm tb : Nat) (nd : List Nd) (way : List UInt8) (w : World) (r : Ending) (w' : World) : Prop :=
  (r = match (makeWay mk (ents nd) way).2 with
    | .error n => .returned (.tuple #[.string ⟨#[]⟩, errV n])
    | .ok q => .returned (.tuple #[.string (bs q), .nilIface])) ∧ ∃ nd', ents nd' = (makeWay mk (ents nd) way).1 ∧ TreeAt w' T rt rm tb nd' ∧ Turned T rt rm nd nd' w w'
theorem MakeR.of_undone {mk : Bool} {T rt rm tb : Nat} {nd : List Nd} {way : List UInt8} {w w' : World} {r : Ending} (hg : Good (ents nd)) (h : UndoneR T rt rm tb nd (makeF mk (needF (pieces way).length 0) (ents nd) [] (pieces way) 0 []) w r w') : MakeR mk T rt rm tb nd way w r w' := by
  have hu := (makeF_undo (mk := mk) (needF (pieces way).length 0) (ents nd) [] (pieces way) 0 [] hg).2
  unfold MakeR makeWay
  unfold UndoneR at h
  generalize makeF mk (needF (pieces way).length 0) (ents nd) [] (pieces way) 0 [] = R at *
  obtain ⟨L, md, ans⟩ := R
  cases ans with
  | ok q => exact h
  | error n =>
    obtain ⟨h0, h1, nd', h2, h3⟩ := h
    exact ⟨h1, nd', h2.trans hu, h3⟩
theorem UndoneR.form {T rt rm tb : Nat} {nd : List Nd} {R : List Ent × List (List UInt8) × Except Nat (List UInt8)} {w w' : World} {r : Ending} (h : UndoneR T rt rm tb nd R w r w') : ∃ (q : ByteArray) (e : Value), r = .returned (.tuple #[.string q, e]) := by
  unfold UndoneR at h
  obtain ⟨L, md, ans⟩ := R
  cases ans with
  | ok q => exact ⟨_, _, h.1⟩
  | error n => exact ⟨_, _, h.2.1⟩
set_option maxRecDepth 100000 in
set_option maxHeartbeats 4000000 in
theorem make_way {T rt rm tb : Nat} {nd : List Nd} (s : ByteArray) (w : World) (ht : TreeAt w T rt rm tb nd) (hs : s.size ≤ 4294967296) :
    Calls Tryz.prog 14 #[.pointer (some ⟨T, 0, none⟩), .string s] w fun r w' => MakeR true T rt rm tb nd s.data.toList w r w' := by
  have Hp := Lib.hid (pieces_any s w (by omega))
  have Ht := Lib.hid ht
  have Hs := Lib.hid hs
  obtain ⟨n, hn⟩ : ∃ n, n = (pieces s.data.toList).length := ⟨_, rfl⟩
  have Hn := Lib.hid hn
  clear ht hs hn
  go_enter Tryz.func14, Tryz.ntmps14
  go_upto_region 2 with (first
    | (go_at_call 18; refine Hp.out.mono ?_; rintro r w1 ⟨v, rfl, htx, hb⟩; obtain ⟨o, cap, rfl, hla, hlo⟩ := left_of_texts htx; rw [← Hn.out]))
  have hwk := World.alloc_heap_new w1 (walkM T ⟨#[]⟩ (.slice o (pieces s.data.toList).length cap) (0 : Nat) true (.func (.func (missF true)) #[] #[]))
  have hun := undone_any (w0 := w) _ Ht.out (hb.alloc hb.size _) hwk hb.size (hla.but ((But.refl [] w1).alloc _) (fun _ _ hx => by cases hx)) (fun ad ha => ⟨hlo ad ha, fun e => by have := hla.lt ad ha; omega⟩) (pieces_small s Hs.out) (pieces_needF s Hs.out)
  rw [← Hn.out] at hun
  have hun2 := hun.mono (R' := fun r w' => ∃ (q : ByteArray) (e : Value), r = .returned (.tuple #[.string q, e]) ∧ MakeR true T rt rm tb nd s.data.toList w (.returned (.tuple #[.string q, e])) w') (fun r w' h => by
    obtain ⟨q, e, hr⟩ := h.form
    subst hr
    exact ⟨q, e, rfl, MakeR.of_undone Ht.out.good (by rw [← Hn.out]; exact h)⟩)
  have Hun := Lib.hid hun2
  clear htx hb hla hlo hwk hun hun2
  go_wp2_with (go_at_call 24; refine Hun.out.mono ?_; rintro r w2 ⟨q, e, rfl, hR⟩
               have HR := Lib.hid hR
               clear hR)
  go_ret2
  exact HR.out
set_option maxRecDepth 100000 in
set_option maxHeartbeats 4000000 in
theorem place_way {T rt rm tb : Nat} {nd : List Nd} (s : ByteArray) (w : World) (ht : TreeAt w T rt rm tb nd) (hs : s.size ≤ 4294967296) :
    Calls Tryz.prog 12 #[.pointer (some ⟨T, 0, none⟩), .string s] w fun r w' => MakeR false T rt rm tb nd s.data.toList w r w' := by
  have Hp := Lib.hid (pieces_any s w (by omega))
  have Ht := Lib.hid ht
  have Hs := Lib.hid hs
  obtain ⟨n, hn⟩ : ∃ n, n = (pieces s.data.toList).length := ⟨_, rfl⟩
  have Hn := Lib.hid hn
  clear ht hs hn
  go_enter Tryz.func12, Tryz.ntmps12
  go_upto_region 2 with (first
    | (go_at_call 18; refine Hp.out.mono ?_; rintro r w1 ⟨v, rfl, htx, hb⟩; obtain ⟨o, cap, rfl, hla, hlo⟩ := left_of_texts htx; rw [← Hn.out]))
  have hwk := World.alloc_heap_new w1 (walkM T ⟨#[]⟩ (.slice o (pieces s.data.toList).length cap) (0 : Nat) false (.func (.func (missF false)) #[] #[]))
  have hun := undone_any (w0 := w) _ Ht.out (hb.alloc hb.size _) hwk hb.size (hla.but ((But.refl [] w1).alloc _) (fun _ _ hx => by cases hx)) (fun ad ha => ⟨hlo ad ha, fun e => by have := hla.lt ad ha; omega⟩) (pieces_small s Hs.out) (pieces_needF s Hs.out)
  rw [← Hn.out] at hun
  have hun2 := hun.mono (R' := fun r w' => ∃ (q : ByteArray) (e : Value), r = .returned (.tuple #[.string q, e]) ∧ MakeR false T rt rm tb nd s.data.toList w (.returned (.tuple #[.string q, e])) w') (fun r w' h => by
    obtain ⟨q, e, hr⟩ := h.form
    subst hr
    exact ⟨q, e, rfl, MakeR.of_undone Ht.out.good (by rw [← Hn.out]; exact h)⟩)
  have Hun := Lib.hid hun2
  clear htx hb hla hlo hwk hun hun2
  go_wp2_with (go_at_call 24; refine Hun.out.mono ?_; rintro r w2 ⟨q, e, rfl, hR⟩
               have HR := Lib.hid hR
               clear hR)
  go_ret2
  exact HR.out
end
end Go.Proofs.YtdkodedocklmdaaGreat
