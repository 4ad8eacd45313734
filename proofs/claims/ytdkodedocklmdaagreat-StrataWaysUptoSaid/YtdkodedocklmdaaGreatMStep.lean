/- Ways that make: what they make, plain; may, dir, place, undone's closure, link, piece (MPlain, MDir, MUndo, MLink, MPiece, MSteps). -/
import Derived.Test.YtdkodedocklmdaaGreatRPlain
import Derived.Test.YtdkodedocklmdaaGreatTTakeW
import Derived.Test.YtdkodedocklmdaaGreatTPutW
import Derived.Test.YtdkodedocklmdaaGreatRGoes
set_option linter.unusedSimpArgs false
set_option linter.unusedVariables false
namespace Go.Proofs.YtdkodedocklmdaaGreat
section
/-- may something be made? -/
def mayNo (c q : List UInt8) : Nat := if nameNo c ≠ 0 then nameNo c else checkNo q
def dirE (q : List UInt8) : Ent := ⟨bs q, 1, 493, emp, emp⟩
theorem dirE_path (q : List UInt8) : (dirE q).path = q := bs_toList q
/-- a way is gone that makes directories: mk: Make, else Place; the tree behind it, what was made, the answer -/
def makeF (mk : Bool) : Nat → List Ent → List UInt8 → List (List UInt8) → Nat → List (List UInt8) → List Ent × List (List UInt8) × Except Nat (List UInt8)
  | 0, L, a, _, _, md => (L, md, .ok a)
  | _ + 1, L, a, [], _, md => (L, md, .ok a)
  | f + 1, L, a, c :: left, hops, md =>
    if c = [46] then makeF mk f L a left hops md
    else if c = [46, 46] then makeF mk f L (parent a) left hops md
    else match lookE L (joinP a c) with
      | none =>
        if mayNo c (joinP a c) ≠ 0 then (L, md, .error (mayNo c (joinP a c)))
        else if mk = false ∧ left = [] then (L, md, .ok (joinP a c))
        else if putNo L (dirE (joinP a c)) ≠ 0 then (L, md, .error (putNo L (dirE (joinP a c))))
        else makeF mk f (laidL L (dirE (joinP a c))) (joinP a c) left hops (md ++ [joinP a c])
      | some e =>
        if e.k = 1 then makeF mk f L (joinP a c) left hops md
        else if e.k = 2 then (if mk = true ∨ left ≠ [] then (L, md, .error 13) else (L, md, .ok (joinP a c)))
        else if hops = 40 then (L, md, .error 12)
        else makeF mk f L (linkAt a e) (pieces e.l.data.toList ++ left) (hops + 1) md
/-- these are taken away, the last first -/
def undoL (L : List Ent) (md : List (List UInt8)) : List Ent := md.reverse.foldl (fun l q => takeL l q) L
theorem undo_nil (L : List Ent) : undoL L [] = L := rfl
theorem undo_snoc (L : List Ent) (md : List (List UInt8)) (q : List UInt8) : undoL L (md ++ [q]) = undoL (takeL L q) md := by
  unfold undoL
  rw [List.reverse_append]
  rfl
/-- nothing lies below what is not there -/
theorem none_below {L : List Ent} (h : Good L) {q : List UInt8} (hq : q ≠ []) (hn : lookE L q = none) : ∀ x ∈ L, belowP q x.path = false := by
  intro x hx
  cases hb : belowP q x.path with
  | false => rfl
  | true =>
    exfalso
    obtain ⟨t, ht⟩ := (below_pre hq).1 hb
    have hl : lookE L (q ++ 47 :: t) = some x := by rw [← ht]; exact lookE_mem h.inc hx
    obtain ⟨y, hy, _⟩ := above_dir h t.length q t x (Nat.le_refl _) hq hl
    rw [hn] at hy
    cases hy
theorem without_same {L : List Ent} {q : List UInt8} (h : ∀ x ∈ L, keepE q x = true) : withoutL L q = L := List.filter_eq_self.2 h
/-- what was laid anew and is taken away leaves the list as it was -/
theorem without_laid : ∀ {L : List Ent} {e : Ent}, (∀ x ∈ L, keepE e.path x = true) → withoutL (laidL L e) e.path = L
  | [], e, _ => by
    unfold laidL withoutL
    have hk : keepE e.path e = false := keepE_false.2 (.inl rfl)
    simp [hk]
  | a :: r, e, h => by
    have ha := h a (List.mem_cons_self ..)
    have hr : ∀ x ∈ r, keepE e.path x = true := fun x hx => h x (List.mem_cons_of_mem _ hx)
    have hk : keepE e.path e = false := keepE_false.2 (.inl rfl)
    have hne : a.path ≠ e.path := fun e2 => by rw [keepE_false.2 (.inl e2)] at ha; cases ha
    unfold laidL
    by_cases hc : compareP a.path e.path < 0
    · rw [if_pos hc]
      unfold withoutL
      rw [List.filter_cons, if_pos ha]
      congr 1
      exact without_laid hr
    · rw [if_neg hc, if_neg hne]
      unfold withoutL
      rw [List.filter_cons, hk, if_neg (by decide)]
      exact List.filter_eq_self.2 h
theorem take_laid {L : List Ent} (h : Good L) {e : Ent} (hn : lookE L e.path = none) (hp : putNo L e = 0) : takeL (laidL L e) e.path = L := by
  have hne := (checkNo_neat (itselfNo_check (putNo_zero hp).1)).ne
  have ht : takeNo (laidL L e) e.path = 0 := by
    unfold takeNo
    rw [if_neg hne, lookE_laid h.inc, if_pos rfl]
  unfold takeL
  rw [if_pos ht]
  refine without_laid fun x hx => ?_
  unfold keepE
  rw [none_below h hne hn x hx, show (x.path == e.path) = false from beq_eq_false_iff_ne.2 (lookE_none hn x hx)]
  rfl
/-- the tree behind it is one; what was made and is taken away leaves the tree as it was -/
theorem makeF_undo {mk : Bool} : ∀ (f : Nat) (L : List Ent) (a : List UInt8) (left : List (List UInt8)) (hops : Nat) (md : List (List UInt8)), Good L →
    Good (makeF mk f L a left hops md).1 ∧ undoL (makeF mk f L a left hops md).1 (makeF mk f L a left hops md).2.1 = undoL L md
  | 0, L, a, left, hops, md, h => ⟨h, rfl⟩
  | f + 1, L, a, [], hops, md, h => ⟨h, rfl⟩
  | f + 1, L, a, c :: left, hops, md, h => by
    unfold makeF
    by_cases h1 : c = [46]
    · rw [if_pos h1]; exact makeF_undo f L a left hops md h
    rw [if_neg h1]
    by_cases h2 : c = [46, 46]
    · rw [if_pos h2]; exact makeF_undo f L (parent a) left hops md h
    rw [if_neg h2]
    cases hl : lookE L (joinP a c) with
    | none =>
      simp only []
      by_cases h3 : mayNo c (joinP a c) ≠ 0
      · rw [if_pos h3]; exact ⟨h, rfl⟩
      rw [if_neg h3]
      by_cases h4 : mk = false ∧ left = []
      · rw [if_pos h4]; exact ⟨h, rfl⟩
      rw [if_neg h4]
      by_cases h5 : putNo L (dirE (joinP a c)) ≠ 0
      · rw [if_pos h5]; exact ⟨h, rfl⟩
      rw [if_neg h5]
      have hp : putNo L (dirE (joinP a c)) = 0 := by omega
      obtain ⟨r1, r2⟩ := makeF_undo f _ (joinP a c) left hops (md ++ [joinP a c]) (h.laid hp)
      refine ⟨r1, r2.trans ?_⟩
      rw [undo_snoc]
      have := take_laid h (e := dirE (joinP a c)) (by rw [dirE_path]; exact hl) hp
      rw [dirE_path] at this
      rw [this]
    | some e =>
      simp only []
      by_cases k1 : e.k = 1
      · rw [if_pos k1]; exact makeF_undo f L (joinP a c) left hops md h
      rw [if_neg k1]
      by_cases k2 : e.k = 2
      · rw [if_pos k2]
        split <;> exact ⟨h, rfl⟩
      rw [if_neg k2]
      by_cases k3 : hops = 40
      · rw [if_pos k3]; exact ⟨h, rfl⟩
      rw [if_neg k3]
      exact makeF_undo f L _ _ (hops + 1) md h
/-- the tree behind a way, and the answer: behind an error it is as it was -/
def makeWay (mk : Bool) (L : List Ent) (way : List UInt8) : List Ent × Except Nat (List UInt8) :=
  match makeF mk (needF (pieces way).length 0) L [] (pieces way) 0 [] with
  | (L', _, .ok q) => (L', .ok q)
  | (_, _, .error n) => (L, .error n)
theorem makeWay_good {mk : Bool} {L : List Ent} {way : List UInt8} (h : Good L) : Good (makeWay mk L way).1 := by
  have := (makeF_undo (mk := mk) (needF (pieces way).length 0) L [] (pieces way) 0 [] h).1
  unfold makeWay
  generalize makeF mk (needF (pieces way).length 0) L [] (pieces way) 0 [] = r at *
  obtain ⟨L', md, x⟩ := r
  cases x with
  | ok q => exact this
  | error n => exact h
/-- what is wrong with making a directory where one may be made -/
theorem putNo_dir {L : List Ent} (h : Good L) {a c : List UInt8} (hc : c ≠ [] ∧ (47 : UInt8) ∉ c) (ha : Here L a) (hn : lookE L (joinP a c) = none) (hm : mayNo c (joinP a c) = 0) :
    putNo L (dirE (joinP a c)) = if 4096 ≤ L.length then 5 else 0 := by
  have hck : checkNo (joinP a c) = 0 := by
    unfold mayNo at hm
    by_cases h1 : nameNo c ≠ 0
    · rw [if_pos h1] at hm; exact absurd hm h1
    · rw [if_neg h1] at hm; exact hm
  have hit : itselfNo (dirE (joinP a c)) = 0 := by
    unfold itselfNo
    rw [dirE_path]
    have e1 : (dirE (joinP a c)).k = 1 := rfl
    have e2 : (dirE (joinP a c)).m = 493 := rfl
    have e3 : (dirE (joinP a c)).d.data.toList = [] := rfl
    have e4 : (dirE (joinP a c)).l.data.toList = [] := rfl
    rw [e1, e2, e3, e4]
    simp [hck]
  have hup : upNo L (dirE (joinP a c)).path = 0 := by
    rw [dirE_path]
    unfold upNo
    rw [parent_join hc.2]
    rcases ha with rfl | ⟨e, he, hk⟩
    · rw [if_pos rfl]
    · by_cases h0 : a = []
      · rw [if_pos h0]
      · rw [if_neg h0, he]
        simp [hk]
  rw [putNo_rest hit hup, dirE_path, hn]
  have hd : (dirE (joinP a c)).d.size = 0 := rfl
  have hb := h.byt
  rw [hd]
  by_cases hl : 4096 ≤ L.length
  · rw [if_pos (.inl hl), if_pos hl]
  · rw [if_neg (by omega), if_neg hl]
end
section
open Go.RowKit Go.Maps Go.Shelf
open Go.Lib hiding intOf size_eq
/-- a walk that makes: its block -/
def walkM (T : Nat) (a : ByteArray) (lv : Value) (hops : Int) (mk : Bool) (mf : Value) : Obj :=
  .cells #[.pointer (some ⟨T, 0, none⟩), .string a, lv, .int .i64 hops, .bool false, .bool mk, mf, .nilFunc] 48 (0, 0)
theorem walkM_cells {w : World} {Wk T : Nat} {a : ByteArray} {lv : Value} {hops : Int} {mk : Bool} {mf : Value} (h : w.heap[Wk]? = some (walkM T a lv hops mk mf)) :
    w.cell? ⟨Wk, 0, none⟩ = some (.pointer (some ⟨T, 0, none⟩)) ∧ w.cell? ⟨Wk, 1, none⟩ = some (.string a) ∧ w.cell? ⟨Wk, 2, none⟩ = some lv ∧ w.cell? ⟨Wk, 3, none⟩ = some (.int .i64 hops) ∧ w.cell? ⟨Wk, 4, none⟩ = some (.bool false) ∧ w.cell? ⟨Wk, 5, none⟩ = some (.bool mk) ∧ w.cell? ⟨Wk, 6, none⟩ = some mf ∧ w.cell? ⟨Wk, 7, none⟩ = some .nilFunc := by
  unfold World.cell? walkM at *
  simp [h]
theorem walkM_frozen {w : World} {Wk T : Nat} {a : ByteArray} {lv : Value} {hops : Int} {mk : Bool} {mf : Value} (h : w.heap[Wk]? = some (walkM T a lv hops mk mf)) (i : Nat) : w.frozen? ⟨Wk, i, none⟩ = false := by
  unfold World.frozen? walkM at *
  simp [h]
theorem walkM_setAt {w : World} {Wk T : Nat} {a : ByteArray} {lv : Value} {hops : Int} {mk : Bool} {mf : Value} (h : w.heap[Wk]? = some (walkM T a lv hops mk mf)) (b : ByteArray) : (w.setCell ⟨Wk, 1, none⟩ (.string b)).heap[Wk]? = some (walkM T b lv hops mk mf) := by
  unfold walkM at *
  exact Go.heap_setCell_same w Wk 1 _ _ _ h
/-- a tree's change beside which some blocks more may have turned -/
structure TurnX (ex : List Nat) (T rt rm : Nat) (nd nd' : List Nd) (w w' : World) : Prop where
  os : w'.os = w.os
  tape : w'.tape = w.tape
  output : w'.output = w.output
  size : w.heap.size ≤ w'.heap.size
  keep : ∀ k, k < w.heap.size → ¬ IsBlk T rt rm nd k → k ∉ ex → w'.heap[k]? = w.heap[k]?
  blk : ∀ b, IsBlk T rt rm nd' b → IsBlk T rt rm nd b ∨ w.heap.size ≤ b
theorem TurnX.of_turned {ex : List Nat} {T rt rm : Nat} {nd nd' : List Nd} {w w' : World} (h : Turned T rt rm nd nd' w w') : TurnX ex T rt rm nd nd' w w' := ⟨h.os, h.tape, h.output, h.size, fun k hk hn _ => h.keep k hk hn, h.blk⟩
theorem TurnX.of_but {ex : List Nat} {T rt rm : Nat} {nd : List Nd} {w w' : World} (h : But ex w w') : TurnX ex T rt rm nd nd w w' := ⟨h.os, h.tape, h.output, h.size, fun k hk _ he => h.block k hk he, fun b hb => .inl hb⟩
theorem TurnX.trans {ex ex2 : List Nat} {T rt rm : Nat} {nd nd1 nd2 : List Nd} {w w1 w2 : World} (h : TurnX ex T rt rm nd nd1 w w1) (k : TurnX ex2 T rt rm nd1 nd2 w1 w2) (he : ∀ i, i ∈ ex2 → i ∈ ex ∨ w.heap.size ≤ i) : TurnX ex T rt rm nd nd2 w w2 :=
  ⟨k.os.trans h.os, k.tape.trans h.tape, k.output.trans h.output, Nat.le_trans h.size k.size, fun b hb hn hx => (k.keep b (Nat.lt_of_lt_of_le hb h.size) (fun x => by
    rcases h.blk b x with y | y
    · exact hn y
    · omega) (fun x => by
    rcases he b x with y | y
    · exact hx y
    · omega)).trans (h.keep b hb hn hx), fun b hb => by
    rcases k.blk b hb with x | x
    · exact h.blk b x
    · have := h.size; exact .inr (by omega)⟩
theorem nameNo_le (c : List UInt8) : nameNo c ≤ 32 := by
  unfold nameNo
  split <;> omega
set_option maxRecDepth 100000 in
theorem may_any (c q : ByteArray) (w : World) (hc : c.size ≤ 1099511627776) (hq : q.size ≤ 1099511627776) :
    Calls Tryz.prog 43 #[.string c, .string q] w fun r w' => r = .returned (errV (mayNo c.data.toList q.data.toList)) ∧ Below w.heap.size w w' := by
  have hn := name_any c w (by omega)
  have hk := fun W => check_any q W (by omega)
  unfold mayNo
  by_cases h0 : nameNo c.data.toList ≠ 0
  · rw [if_pos h0]
    rw [errV_pos h0] at hn ⊢
    have Hn := Lib.hid hn
    clear hn hk h0
    go_enter Tryz.func43, Tryz.ntmps43
    go_wp2_with (first
      | (go_at_call 61; refine Hn.out.mono ?_; rintro r w1 ⟨rfl, hb⟩; have B1 := Lib.hid hb; clear hb))
    go_ret
    exact ⟨rfl, B1.out⟩
  · rw [if_neg h0]
    rw [show errV (nameNo c.data.toList) = .nilIface by rw [show nameNo c.data.toList = 0 by omega]; rfl] at hn
    have Hn := Lib.hid hn
    have Hk := Lib.hid hk
    clear hn hk h0
    generalize checkNo q.data.toList = n at *
    obtain ⟨E, hE⟩ : ∃ x, x = errV n := ⟨_, rfl⟩
    rw [← hE] at Hk ⊢
    clear hE
    go_enter Tryz.func43, Tryz.ntmps43
    go_wp2_with (first
      | (go_at_call 61; refine Hn.out.mono ?_; rintro r w1 ⟨rfl, hb⟩; have B1 := Lib.hid hb; clear hb)
      | (go_at_call 48; refine (Hk.out w1).mono ?_; rintro r w2 ⟨rfl, hb⟩; have B2 := Lib.hid (B1.out.trans (hb.mono B1.out.size)); clear hb))
    go_ret
    exact ⟨rfl, B2.out⟩
/-- what is wrong with making a directory -/
def dirNo (L : List Ent) (c q : List UInt8) : Nat := if mayNo c q ≠ 0 then mayNo c q else putNo L (dirE q)
/-- what dir has done -/
def DirR (T rt rm tb Wk : Nat) (nd : List Nd) (c q a : List UInt8) (lv : Value) (hops : Int) (mk : Bool) (mf : Value) (w : World) (r : Ending) (w' : World) : Prop :=
  r = .returned (.tuple #[.bool false, errV (dirNo (ents nd) c q)]) ∧ ∃ nd', ents nd' = (if dirNo (ents nd) c q = 0 then laidL (ents nd) (dirE q) else ents nd) ∧ TreeAt w' T rt rm tb nd' ∧ TurnX [Wk] T rt rm nd nd' w w' ∧
    w'.heap[Wk]? = some (walkM T (if dirNo (ents nd) c q = 0 then bs q else bs a) lv hops mk mf)
theorem tree_setOut {w : World} {T rt rm tb Wk : Nat} {nd : List Nd} (h : TreeAt w T rt rm tb nd) (hn : ¬ IsBlk T rt rm nd Wk) (i : Nat) (v : Value) : TreeAt (w.setCell ⟨Wk, i, none⟩ v) T rt rm tb nd :=
  h.same fun b hb => heap_setCell_other w ⟨Wk, i, none⟩ b v (fun e => hn (by rw [← show b = Wk from e]; exact hb))
set_option maxRecDepth 100000 in
set_option maxHeartbeats 2000000 in
theorem dir_make_any {T rt rm tb Wk : Nat} {nd : List Nd} {a : List UInt8} {lv : Value} {hops : Int} {mk : Bool} {mf : Value} (c : ByteArray) (q : List UInt8) (w : World) (ht : TreeAt w T rt rm tb nd) (hw : w.heap[Wk]? = some (walkM T (bs a) lv hops mk mf)) (hn : ¬ IsBlk T rt rm nd Wk)
    (hc : c.size ≤ 1099511627776) (hq : q.length ≤ 1099511627776) :
    Calls Tryz.prog 25 #[.pointer (some ⟨Wk, 0, none⟩), .string c, .string (bs q)] w (DirR T rt rm tb Wk nd c.data.toList q a lv hops mk mf w) := by
  have hqs : (bs q).size ≤ 1099511627776 := by rw [bs_size]; exact hq
  have hmay := may_any c (bs q) w hc hqs
  rw [bs_toList] at hmay
  have hput := fun (W : World) (hb : Below w.heap.size w W) => put_any (dirE q) W (ht.below hb (Nat.le_refl _)) (Nat.lt_of_le_of_lt hqs (by decide)) (show 0 < 1152921504606846976 by decide) (show 0 < 1152921504606846976 by decide)
  have hcells : ∀ W, Below w.heap.size w W → W.heap[Wk]? = some (walkM T (bs a) lv hops mk mf) := fun W hb => (hb.block Wk (heap_lt hw)).trans hw
  have HN := Lib.hid hn
  have HT := Lib.hid ht
  have Hcells := Lib.hid hcells
  have Hwl := Lib.hid (heap_lt hw)
  unfold DirR dirNo
  by_cases h0 : mayNo c.data.toList q ≠ 0
  · rw [if_pos h0]
    rw [errV_pos h0] at hmay ⊢
    have Hmay := Lib.hid hmay
    have H0 := Lib.hid h0
    clear hmay hput hcells hw ht hn h0
    generalize mayNo c.data.toList q = N at *
    go_enter Tryz.func25, Tryz.ntmps25
    go_wp2_with (first
      | (go_at_call 43; refine Hmay.out.mono ?_; rintro r w1 ⟨rfl, hb⟩; have B1 := Lib.hid hb; clear hb))
    go_ret2
    exact ⟨rfl, nd, rfl, HT.out.below B1.out (Nat.le_refl _), TurnX.of_turned (Turned.of_below B1.out), Hcells.out _ B1.out⟩
  · rw [if_neg h0]
    rw [show errV (mayNo c.data.toList q) = .nilIface by rw [show mayNo c.data.toList q = 0 by omega]; rfl] at hmay
    have Hmay := Lib.hid hmay
    have Hput := Lib.hid hput
    clear hmay hput hcells hw ht hn h0
    by_cases h1 : putNo (ents nd) (dirE q) = 0
    · rw [h1]
      have H1 := Lib.hid h1
      have hp2 : ∀ W, Below w.heap.size w W → Calls Tryz.prog 46 #[.pointer (some ⟨T, 0, none⟩), .agg #[.string (bs q), .int .i64 1, .int .i64 493, .string ⟨#[]⟩, .string ⟨#[]⟩]] W fun r w' => r = .returned .nilIface ∧ ∃ nd', ents nd' = laidL (ents nd) (dirE q) ∧ TreeAt w' T rt rm tb nd' ∧ Turned T rt rm nd nd' W w' := fun W hW =>
        (Hput.out W hW).mono fun r w' ⟨g1, nd', g2, g3, g4⟩ => by
          rw [H1.out] at g1
          unfold putL at g2
          rw [if_pos H1.out] at g2
          exact ⟨g1, nd', g2, g3, g4⟩
      have Hp2 := Lib.hid hp2
      clear hp2 h1 Hput
      go_enter Tryz.func25, Tryz.ntmps25
      go_wp2_with (first
        | (go_at_call 43; refine Hmay.out.mono ?_; rintro r w1 ⟨rfl, hb⟩
           have B1 := Lib.hid hb
           obtain ⟨x0, x1, x2, x3, x4, x5, x6, x7⟩ := walkM_cells (Hcells.out w1 hb)
           clear hb x1 x2 x3 x4 x5 x6 x7)
        | (go_at_call 46; refine (Hp2.out w1 B1.out).mono ?_; rintro r w2 ⟨rfl, nd', g2, g3, g4⟩
           have hob : w2.heap[Wk]? = some (walkM T (bs a) lv hops mk mf) := (g4.keep Wk (Nat.lt_of_lt_of_le Hwl.out B1.out.size) HN.out).trans (Hcells.out w1 B1.out)
           have y1 := (walkM_cells hob).2.1
           have yf := walkM_frozen hob 1
           have Hob := Lib.hid hob
           have G2 := Lib.hid g2
           have G3 := Lib.hid g3
           have G4 := Lib.hid g4
           clear hob g2 g3 g4))
      go_ret2
      have hnb : ¬ IsBlk T rt rm nd' Wk := fun hx => by
        rcases G4.out.blk Wk hx with y | y
        · exact HN.out y
        · have := Hwl.out; have := B1.out.size; omega
      refine ⟨rfl, nd', G2.out, tree_setOut G3.out hnb 1 _, ?_, walkM_setAt Hob.out (bs q)⟩
      refine (TurnX.trans (TurnX.of_turned (ex := [Wk]) ((Turned.of_below B1.out).trans G4.out)) (TurnX.of_but (ex := [Wk]) ((But.refl [Wk] w2).setCell (p := ⟨Wk, 1, none⟩) (.inl (List.mem_singleton.2 rfl)) _)) fun i hi => .inl hi)
    · have hp2 : ∀ W, Below w.heap.size w W → Calls Tryz.prog 46 #[.pointer (some ⟨T, 0, none⟩), .agg #[.string (bs q), .int .i64 1, .int .i64 493, .string ⟨#[]⟩, .string ⟨#[]⟩]] W fun r w' => r = .returned (errV (putNo (ents nd) (dirE q))) ∧ ∃ nd', ents nd' = ents nd ∧ TreeAt w' T rt rm tb nd' ∧ Turned T rt rm nd nd' W w' := fun W hW =>
        (Hput.out W hW).mono fun r w' ⟨g1, nd', g2, g3, g4⟩ => by
          unfold putL at g2
          rw [if_neg h1] at g2
          exact ⟨g1, nd', g2, g3, g4⟩
      rw [errV_pos h1] at hp2 ⊢
      have Hp2 := Lib.hid hp2
      have H1 := Lib.hid h1
      clear hp2 h1 Hput
      generalize putNo (ents nd) (dirE q) = N at *
      go_enter Tryz.func25, Tryz.ntmps25
      go_wp2_with (first
        | (go_at_call 43; refine Hmay.out.mono ?_; rintro r w1 ⟨rfl, hb⟩
           have B1 := Lib.hid hb
           obtain ⟨x0, x1, x2, x3, x4, x5, x6, x7⟩ := walkM_cells (Hcells.out w1 hb)
           clear hb x1 x2 x3 x4 x5 x6 x7)
        | (go_at_call 46; refine (Hp2.out w1 B1.out).mono ?_; rintro r w2 ⟨rfl, nd', g2, g3, g4⟩
           have hob : w2.heap[Wk]? = some (walkM T (bs a) lv hops mk mf) := (g4.keep Wk (Nat.lt_of_lt_of_le Hwl.out B1.out.size) HN.out).trans (Hcells.out w1 B1.out)
           have Hob := Lib.hid hob
           have G2 := Lib.hid g2
           have G3 := Lib.hid g3
           have G4 := Lib.hid g4
           clear hob g2 g3 g4))
      go_ret2
      exact ⟨rfl, nd', G2.out, G3.out, TurnX.of_turned ((Turned.of_below B1.out).trans G4.out), Hob.out⟩
set_option maxRecDepth 100000 in
set_option maxHeartbeats 2000000 in
theorem place_last_any {T Wk cap : Nat} {o : Option Addr} {a : List UInt8} {hops : Int} {mk : Bool} {mf : Value} (c : ByteArray) (q : List UInt8) (w : World) (hw : w.heap[Wk]? = some (walkM T (bs a) (.slice o 0 cap) hops mk mf))
    (hc : c.size ≤ 1099511627776) (hq : q.length ≤ 1099511627776) :
    Calls Tryz.prog 23 #[.pointer (some ⟨Wk, 0, none⟩), .string c, .string (bs q)] w fun r w' => r = .returned (.tuple #[.bool true, errV (mayNo c.data.toList q)]) ∧ Below w.heap.size w w' := by
  have hmay := may_any c (bs q) w hc (by rw [bs_size]; exact hq)
  rw [bs_toList] at hmay
  obtain ⟨E, hE⟩ : ∃ x, x = errV (mayNo c.data.toList q) := ⟨_, rfl⟩
  rw [← hE] at hmay ⊢
  have Hmay := Lib.hid hmay
  obtain ⟨x0, x1, x2, x3, x4, x5, x6, x7⟩ := walkM_cells hw
  clear hmay hE hw x0 x1 x3 x4 x5 x6 x7
  go_enter Tryz.func23, Tryz.ntmps23
  go_wp2_with (first
    | (go_at_call 43; refine Hmay.out.mono ?_; rintro r w1 ⟨rfl, hb⟩; have B1 := Lib.hid hb; clear hb))
  go_ret2
  exact ⟨rfl, B1.out⟩
set_option maxRecDepth 100000 in
set_option maxHeartbeats 2000000 in
theorem place_make_any {T rt rm tb Wk cap n : Nat} {o : Option Addr} {nd : List Nd} {a : List UInt8} {hops : Int} {mk : Bool} {mf : Value} (c : ByteArray) (q : List UInt8) (w : World) (ht : TreeAt w T rt rm tb nd) (hw : w.heap[Wk]? = some (walkM T (bs a) (.slice o n cap) hops mk mf)) (hn : ¬ IsBlk T rt rm nd Wk) (h0 : 0 < n) (hnc : n ≤ 1099511627776)
    (hc : c.size ≤ 1099511627776) (hq : q.length ≤ 1099511627776) :
    Calls Tryz.prog 23 #[.pointer (some ⟨Wk, 0, none⟩), .string c, .string (bs q)] w (DirR T rt rm tb Wk nd c.data.toList q a (.slice o n cap) hops mk mf w) := by
  have hdir := dir_make_any c q w ht hw hn hc hq
  have hd2 : Calls Tryz.prog 25 #[.pointer (some ⟨Wk, 0, none⟩), .string c, .string (bs q)] w fun r w' => ∃ e, r = .returned (.tuple #[.bool false, e]) ∧ DirR T rt rm tb Wk nd c.data.toList q a (.slice o n cap) hops mk mf w (.returned (.tuple #[.bool false, e])) w' := hdir.mono fun r w' h => by
    obtain ⟨h1, h2⟩ := h
    subst h1
    exact ⟨_, rfl, rfl, h2⟩
  have Hd := Lib.hid hd2
  obtain ⟨x0, x1, x2, x3, x4, x5, x6, x7⟩ := walkM_cells hw
  clear hdir hd2 hw ht hn x0 x1 x3 x4 x5 x6 x7
  go_enter Tryz.func23, Tryz.ntmps23
  go_wp2_with (first
    | (go_at_call 25; refine Hd.out.mono ?_; rintro r w1 ⟨e, rfl, hr⟩; have HR := Lib.hid hr; clear hr))
  go_ret2
  exact HR.out
end
section
open Go.RowKit Go.Maps Go.Shelf
open Go.Lib hiding intOf size_eq
/-- is what is missing the answer itself? -/
def missDone (mk last : Bool) : Bool := !mk && last
def missNo (mk last : Bool) (L : List Ent) (c q : List UInt8) : Nat := if missDone mk last = true then mayNo c q else dirNo L c q
/-- is a directory made? -/
def missMade (mk last : Bool) (L : List Ent) (c q : List UInt8) : Bool := !missDone mk last && (dirNo L c q == 0)
def MissR (mk last : Bool) (T rt rm tb Wk : Nat) (nd : List Nd) (c q a : List UInt8) (lv : Value) (hops : Int) (mf : Value) (w : World) (r : Ending) (w' : World) : Prop :=
  r = .returned (.tuple #[.bool (missDone mk last), errV (missNo mk last (ents nd) c q)]) ∧ ∃ nd', ents nd' = (if missMade mk last (ents nd) c q = true then laidL (ents nd) (dirE q) else ents nd) ∧ TreeAt w' T rt rm tb nd' ∧ TurnX [Wk] T rt rm nd nd' w w' ∧
    w'.heap[Wk]? = some (walkM T (if missMade mk last (ents nd) c q = true then bs q else bs a) lv hops mk mf)
theorem MissR.of_dir {mk last : Bool} {T rt rm tb Wk : Nat} {nd : List Nd} {c q a : List UInt8} {lv : Value} {hops : Int} {mf : Value} {w w' : World} {r : Ending} (hd : missDone mk last = false) (h : DirR T rt rm tb Wk nd c q a lv hops mk mf w r w') : MissR mk last T rt rm tb Wk nd c q a lv hops mf w r w' := by
  obtain ⟨h1, nd', h2, h3, h4, h5⟩ := h
  have hm : (missMade mk last (ents nd) c q = true) = (dirNo (ents nd) c q = 0) := by
    unfold missMade
    rw [hd]
    simp
  refine ⟨?_, nd', ?_, h3, h4, ?_⟩
  · unfold missNo
    rw [hd, if_neg (by decide)]
    exact h1
  · simp only [hm]; exact h2
  · simp only [hm]; exact h5
theorem MissR.of_last {mk last : Bool} {T rt rm tb Wk : Nat} {nd : List Nd} {c q a : List UInt8} {lv : Value} {hops : Int} {mf : Value} {w w' : World} (hd : missDone mk last = true) (ht : TreeAt w T rt rm tb nd) (hw : w.heap[Wk]? = some (walkM T (bs a) lv hops mk mf)) (hb : Below w.heap.size w w') :
    MissR mk last T rt rm tb Wk nd c q a lv hops mf w (.returned (.tuple #[.bool true, errV (mayNo c q)])) w' := by
  have hm : ¬ missMade mk last (ents nd) c q = true := by
    unfold missMade
    rw [hd]
    simp
  refine ⟨?_, nd, by rw [if_neg hm], ht.below hb (Nat.le_refl _), TurnX.of_turned (Turned.of_below hb), ?_⟩
  · unfold missNo
    rw [hd, if_pos rfl]
  · rw [if_neg hm]
    exact (hb.block Wk (heap_lt hw)).trans hw
/-- the function that is called where nothing is -/
def missF (mk : Bool) : FuncId := if mk = true then 25 else 23
theorem miss_any {mk : Bool} {T rt rm tb Wk cap n : Nat} {o : Option Addr} {nd : List Nd} {a : List UInt8} {hops : Int} {mf : Value} (c : ByteArray) (q : List UInt8) (w : World) (ht : TreeAt w T rt rm tb nd) (hw : w.heap[Wk]? = some (walkM T (bs a) (.slice o n cap) hops mk mf)) (hn : ¬ IsBlk T rt rm nd Wk) (hnc : n ≤ 1099511627776)
    (hc : c.size ≤ 1099511627776) (hq : q.length ≤ 1099511627776) :
    Calls Tryz.prog (missF mk) #[.pointer (some ⟨Wk, 0, none⟩), .string c, .string (bs q)] w (MissR mk (decide (n = 0)) T rt rm tb Wk nd c.data.toList q a (.slice o n cap) hops mf w) := by
  cases mk with
  | true => exact (dir_make_any c q w ht hw hn hc hq).mono fun r w' h => MissR.of_dir rfl h
  | false =>
    by_cases h0 : n = 0
    · subst h0
      exact (place_last_any c q w hw hc hq).mono fun r w' ⟨h1, h2⟩ => by
        subst h1
        exact MissR.of_last (by simp [missDone]) ht hw h2
    · exact (place_make_any c q w ht hw hn (by omega) hnc hc hq).mono fun r w' h => MissR.of_dir (by simp [missDone, h0]) h
/-- the closure -/
def undoF (Bm Bd : Nat) : Value := .func (.func 44) #[] #[.pointer (some ⟨Bm, 0, none⟩), .pointer (some ⟨Bd, 0, none⟩)]
/-- what was made is noted in the box Bd -/
structure MadeAt (w : World) (base Bm Bd : Nat) (mk : Bool) (md : List (List UInt8)) (v : Value) : Prop where
  bm : Boxed w Bm 45 (.func (.func (missF mk)) #[] #[])
  bd : Boxed w Bd 43 v
  tx : Texts w base v md
  lo : base ≤ Bd ∧ base ≤ Bm
/-- what the closure has done -/
def UndoR (mk last : Bool) (T rt rm tb Wk base Bm Bd : Nat) (nd : List Nd) (c q a : List UInt8) (lv : Value) (hops : Int) (md : List (List UInt8)) (v : Value) (w : World) (r : Ending) (w' : World) : Prop :=
  r = .returned (.tuple #[.bool (missDone mk last), errV (missNo mk last (ents nd) c q)]) ∧ ∃ nd' v', ents nd' = (if missMade mk last (ents nd) c q = true then laidL (ents nd) (dirE q) else ents nd) ∧ TreeAt w' T rt rm tb nd' ∧ TurnX (Wk :: Bd :: v.ownBlock.toList) T rt rm nd nd' w w' ∧
    w'.heap[Wk]? = some (walkM T (if missMade mk last (ents nd) c q = true then bs q else bs a) lv hops mk (undoF Bm Bd)) ∧ MadeAt w' base Bm Bd mk (if missMade mk last (ents nd) c q = true then md ++ [q] else md) v' ∧ (∀ k ∈ v'.ownBlock.toList, k ∈ v.ownBlock.toList ∨ w.heap.size ≤ k)
theorem MadeAt.turn {w w' : World} {base Bm Bd : Nat} {mk : Bool} {md : List (List UInt8)} {v : Value} {ex : List Nat} {T rt rm : Nat} {nd nd' : List Nd} (h : MadeAt w base Bm Bd mk md v) (ht : TurnX ex T rt rm nd nd' w w')
    (h1 : ¬ IsBlk T rt rm nd Bm ∧ Bm ∉ ex) (h2 : ¬ IsBlk T rt rm nd Bd ∧ Bd ∉ ex) (h3 : ∀ k ∈ v.ownBlock.toList, ¬ IsBlk T rt rm nd k ∧ k ∉ ex) : MadeAt w' base Bm Bd mk md v := by
  refine ⟨(ht.keep Bm (Boxed.lt h.bm) h1.1 h1.2).trans h.bm, (ht.keep Bd (Boxed.lt h.bd) h2.1 h2.2).trans h.bd, ?_, h.lo⟩
  obtain ⟨t1, t2⟩ := h.tx
  refine ⟨t1, ?_⟩
  rcases t2 with t2 | ⟨g, cap, cur, rfl, hb, hg, hrest⟩
  · exact .inl t2
  · have hk := h3 g (by simp [Value.ownBlock])
    exact .inr ⟨g, cap, cur, rfl, hb, (ht.keep g (heap_lt hg) hk.1 hk.2).trans hg, hrest⟩
theorem TurnX.more {ex ex2 : List Nat} {T rt rm : Nat} {nd nd' : List Nd} {w w' : World} (h : TurnX ex T rt rm nd nd' w w') (he : ∀ i, i ∈ ex → i ∈ ex2) : TurnX ex2 T rt rm nd nd' w w' := ⟨h.os, h.tape, h.output, h.size, fun k hk hn hx => h.keep k hk hn (fun e => hx (he k e)), h.blk⟩
/-- behind the closure, where nothing was made -/
def UndoE (T rt rm tb Wk base Bm Bd : Nat) (nd : List Nd) (a : List UInt8) (lv : Value) (hops : Int) (mk : Bool) (md : List (List UInt8)) (v : Value) (w w' : World) : Prop :=
  ∃ nd' v', ents nd' = ents nd ∧ TreeAt w' T rt rm tb nd' ∧ TurnX (Wk :: Bd :: v.ownBlock.toList) T rt rm nd nd' w w' ∧
    w'.heap[Wk]? = some (walkM T (bs a) lv hops mk (undoF Bm Bd)) ∧ MadeAt w' base Bm Bd mk md v' ∧ (∀ k ∈ v'.ownBlock.toList, k ∈ v.ownBlock.toList ∨ w.heap.size ≤ k)
theorem undo1_end {mk : Bool} {T rt rm tb Wk base Bm Bd : Nat} {nd nd' : List Nd} {q : List UInt8} {lv : Value} {hops : Int} {md : List (List UInt8)} {v v' : Value} {w w1 w2 : World} {tmp : Obj}
    (hm1 : MadeAt w1 base Bm Bd mk md v) (g2 : ents nd' = laidL (ents nd) (dirE q)) (g3 : TreeAt w1 T rt rm tb nd') (g4 : TurnX [Wk] T rt rm nd nd' w w1) (g5 : w1.heap[Wk]? = some (walkM T (bs q) lv hops mk (undoF Bm Bd)))
    (hgrow : (w1.alloc tmp).grownBy w2 v.ownBlock) (hblk : v'.ownBlock = v.ownBlock ∨ v'.ownBlock = some (w1.alloc tmp).heap.size) (hv2 : Boxed (w2.setCell ⟨Bd, 0, none⟩ v') Bd 43 v') (htx : Texts (w2.setCell ⟨Bd, 0, none⟩ v') base v' (md ++ [q]))
    (h1 : ¬ IsBlk T rt rm nd Bm ∧ Bm ∉ [Wk]) (h2 : ¬ IsBlk T rt rm nd Bd ∧ Bd ∉ [Wk]) (h3 : ∀ k ∈ v.ownBlock.toList, ¬ IsBlk T rt rm nd k ∧ k ∉ [Wk]) (hne : Bm ≠ Bd) (hn : ¬ IsBlk T rt rm nd Wk) (hwl : Wk < w.heap.size) (hlt : ∀ k ∈ v.ownBlock.toList, k < w.heap.size) (hbl : Bm < w.heap.size ∧ Bd < w.heap.size) :
    (Ending.returned (.tuple #[.bool false, .nilIface]) = Ending.returned (.tuple #[.bool false, .nilIface])) ∧ ∃ nd'' v'', ents nd'' = laidL (ents nd) (dirE q) ∧ TreeAt (w2.setCell ⟨Bd, 0, none⟩ v') T rt rm tb nd'' ∧ TurnX (Wk :: Bd :: v.ownBlock.toList) T rt rm nd nd'' w (w2.setCell ⟨Bd, 0, none⟩ v') ∧
      (w2.setCell ⟨Bd, 0, none⟩ v').heap[Wk]? = some (walkM T (bs q) lv hops mk (undoF Bm Bd)) ∧ MadeAt (w2.setCell ⟨Bd, 0, none⟩ v') base Bm Bd mk (md ++ [q]) v'' ∧ (∀ k ∈ v''.ownBlock.toList, k ∈ v.ownBlock.toList ∨ w.heap.size ≤ k) := by
  have hbut : But (Bd :: v.ownBlock.toList) w1 (w2.setCell ⟨Bd, 0, none⟩ v') := by
    refine (((But.refl _ w1).alloc _).grown hgrow (fun k hk => ?_)).setCell (p := ⟨Bd, 0, none⟩) (.inl (List.mem_cons_self ..)) _
    refine .inl (List.mem_cons_of_mem _ ?_)
    rw [hk]; simp
  have hsz := g4.size
  -- blocks that were there before are no new blocks of the tree
  have old : ∀ k, k < w.heap.size → ¬ IsBlk T rt rm nd k → ¬ IsBlk T rt rm nd' k := fun k hk h hx => by
    rcases g4.blk k hx with y | y
    · exact h y
    · omega
  have hkeep : ∀ k, k < w1.heap.size → k ≠ Bd → k ∉ v.ownBlock.toList → (w2.setCell ⟨Bd, 0, none⟩ v').heap[k]? = w1.heap[k]? := fun k hk hkb hkv => hbut.block k hk (fun x => by
    rcases List.mem_cons.1 x with e | e
    · exact hkb e
    · exact hkv e)
  have hWd : Wk ≠ Bd := fun e => h2.2 (by rw [e]; simp)
  have hWv : Wk ∉ v.ownBlock.toList := fun e => (h3 Wk e).2 (by simp)
  refine ⟨rfl, nd', v', g2, ?_, ?_, (hkeep Wk (by omega) hWd hWv).trans g5, ⟨?_, hv2, htx, hm1.lo⟩, fun k hk => ?_⟩
  · refine g3.same fun b hb => hkeep b (g3.lt hb) (fun e => ?_) (fun e => ?_)
    · rw [e] at hb
      exact old Bd hbl.2 h2.1 hb
    · exact old b (hlt b e) (h3 b e).1 hb
  · exact TurnX.trans (g4.more (fun i hi => List.mem_cons.2 (.inl (List.mem_singleton.1 hi)))) (TurnX.of_but hbut) fun i hi => .inl (List.mem_cons_of_mem _ hi)
  · have hmv : Bm ∉ v.ownBlock.toList := fun e => by
      rcases hm1.tx.2 with ⟨e2, _⟩ | ⟨g, cp, cur, e2, _, hg, _⟩
      · rw [e2] at e; simp [Value.ownBlock] at e
      · rw [e2] at e
        simp [Value.ownBlock] at e
        have hb := hm1.bm
        unfold Boxed at hb
        rw [e, hg] at hb
        injection hb with hb
        injection hb with _ hb _
        exact absurd hb (by decide)
    exact (hkeep Bm (by omega) hne hmv).trans hm1.bm
  · rcases own_list hblk hk with h | h
    · exact .inl h
    · refine .inr ?_
      rw [h]
      simp
      omega
set_option maxRecDepth 100000 in
set_option maxHeartbeats 4000000 in
theorem undo1_any {mk : Bool} {T rt rm tb Wk base Bm Bd cap n : Nat} {o : Option Addr} {nd : List Nd} {a : List UInt8} {hops : Int} {md : List (List UInt8)} {v : Value} (c : ByteArray) (q : List UInt8) (w : World) (ht : TreeAt w T rt rm tb nd) (hw : w.heap[Wk]? = some (walkM T (bs a) (.slice o n cap) hops mk (undoF Bm Bd))) (hn : ¬ IsBlk T rt rm nd Wk) (hnc : n ≤ 1099511627776)
    (hm : MadeAt w base Bm Bd mk md v) (hW : base ≤ w.heap.size) (h1 : ¬ IsBlk T rt rm nd Bm ∧ Bm ∉ [Wk]) (h2 : ¬ IsBlk T rt rm nd Bd ∧ Bd ∉ [Wk]) (h3 : ∀ k ∈ v.ownBlock.toList, ¬ IsBlk T rt rm nd k ∧ k ∉ [Wk]) (hne : Bm ≠ Bd) (hml : md.length ≤ 1099511627776)
    (hc : c.size ≤ 1099511627776) (hq : q.length ≤ 1099511627776) :
    Calls Tryz.prog 44 #[.pointer (some ⟨Wk, 0, none⟩), .string c, .string (bs q), .pointer (some ⟨Bm, 0, none⟩), .pointer (some ⟨Bd, 0, none⟩)] w (UndoR mk (decide (n = 0)) T rt rm tb Wk base Bm Bd nd c.data.toList q a (.slice o n cap) hops md v w) := by
  have hmiss := miss_any c q w ht hw hn hnc hc hq
  have hbm := hm.bm.cell
  obtain ⟨dn, hdn⟩ : ∃ x, x = missDone mk (decide (n = 0)) := ⟨_, rfl⟩
  obtain ⟨no, hno⟩ : ∃ x, x = missNo mk (decide (n = 0)) (ents nd) c.data.toList q := ⟨_, rfl⟩
  have hmade : missMade mk (decide (n = 0)) (ents nd) c.data.toList q = (!dn && (no == 0)) := by
    unfold missMade missNo at *
    rw [← hdn]
    cases dn with
    | true => rfl
    | false => rw [hno, ← hdn, if_neg (by decide)]
  unfold MissR at hmiss
  unfold UndoR
  rw [hmade, ← hdn, ← hno] at hmiss ⊢
  have Hmiss := Lib.hid hmiss
  have Hm := Lib.hid hm
  have H1 := Lib.hid h1
  have H2 := Lib.hid h2
  have H3 := Lib.hid h3
  have HN := Lib.hid hn
  have Hwl := Lib.hid (heap_lt hw)
  have Hlt := Lib.hid (show ∀ k ∈ v.ownBlock.toList, k < w.heap.size from fun k hk => by
    rcases hm.tx.2 with ⟨e, _⟩ | ⟨g, cp, cur, e, _, hg, _⟩
    · rw [e] at hk; simp [Value.ownBlock] at hk
    · rw [e] at hk; simp [Value.ownBlock] at hk; subst hk; exact heap_lt hg)
  have Hbl := Lib.hid (show Bm < w.heap.size ∧ Bd < w.heap.size from ⟨Boxed.lt hm.bm, Boxed.lt hm.bd⟩)
  clear hmiss hdn hno hmade ht hw hn hm h1 h2 h3
  obtain ⟨i0, hi, hz0, hz1, hz2⟩ := info_parts Tryz.infoString
  have Hi := Lib.hid hi
  have Hz0 := Lib.hid hz0
  have Hz1 := Lib.hid hz1
  have Hz2 := Lib.hid hz2
  obtain ⟨m, hml2⟩ : ∃ m, m = md.length := ⟨_, rfl⟩
  have Hml := Lib.hid hml2
  rw [← hml2] at hml
  clear hi hz0 hz1 hz2 hml2
  cases mk with
  | true =>
    have hmiss := Hmiss.out
    rw [show missF true = 25 from rfl] at hmiss hbm
    clear Hmiss
    have Hmiss := Lib.hid hmiss
    clear hmiss
    by_cases hmd : dn = false ∧ no = 0
    · obtain ⟨rfl, rfl⟩ := hmd
      have e0 : errV 0 = .nilIface := rfl
      rw [e0] at Hmiss ⊢
      simp only [show ((!false && (0 : Nat) == 0) = true) = True from by simp, if_true] at Hmiss ⊢
      clear e0
      go_enter Tryz.func44, Tryz.ntmps44
      go_wp2_with (first
        | (go_at_call 25; refine Hmiss.out.mono ?_; rintro r w1 ⟨rfl, nd', g2, g3, g4, g5⟩
           have hm1 := Hm.out.turn g4 H1.out H2.out H3.out
           have hsz := g4.size
           have hvc := hm1.bd.cell
           have hvf := hm1.bd.frozen
           have hrow : w1.ownsRow base 9 1 v m (md.map encS) := (by rw [Hml.out]; exact hm1.tx)
           have Hv := Lib.hid hm1.bd
           have Hrow := Lib.hid hrow
           have Hm1 := Lib.hid hm1
           have G2 := Lib.hid g2
           have G3 := Lib.hid g3
           have G4 := Lib.hid g4
           have G5 := Lib.hid g5
           have hbase : base ≤ w1.heap.size := Nat.le_trans hW hsz
           clear hm1 hrow g2 g3 g4 g5 hbm)
        | (at_builtin; go_loud (refine wpList_append_own_at _ rfl _ _ 43 rfl base 9 i0 (.string ⟨#[]⟩) 1 16 Tryz.underlying43 Hi.out Hz0.out Hz1.out Hz2.out rfl (by decide) _ _ _ rfl (Hrow.out.alloc _) ⟨w1.heap.size, 0, none⟩ 1 1 [encS q] rfl rfl (cell_one_new _ _ _) (by simp [Value.oneCell', encS]) (by unfold maxLen; omega) (by omega) (by simp; omega) ?_); intro v' w2 hown' hgrow _ hblk; obtain ⟨g', cap', rfl⟩ := ownsRow_succ hown'; obtain ⟨hv1, hv2, hr2, hk2, hb3⟩ := Hv.out.appended (by decide) Hrow.out hbase Hm1.out.lo.1 hown' hgrow; have hc1 := hv1.cell; have hf1 := hv1.frozen
           have Hgrow := Lib.hid hgrow
           have Hblk := Lib.hid hblk
           have Hv2 := Lib.hid hv2
           have Hr2 := Lib.hid hr2
           clear hown' hgrow hblk hv1 hv2 hr2 hk2 hb3))
      go_ret2
      exact undo1_end Hm1.out G2.out G3.out G4.out G5.out Hgrow.out Hblk.out Hv2.out (texts_snoc (u := encS q) (by rw [← Hml.out]; exact Hr2.out) rfl) H1.out H2.out H3.out hne HN.out Hwl.out (fun k hk => Hlt.out k hk) Hbl.out
    · have hmd2 : (!dn && (no == 0)) = false := by
        cases dn with
        | true => rfl
        | false =>
          have : no ≠ 0 := fun e => hmd ⟨rfl, e⟩
          simp [this]
      simp only [show ((!dn && (no == 0)) = true) = False from by rw [hmd2]; simp, if_false] at Hmiss ⊢
      have fin : ∀ w1 nd', ents nd' = ents nd → TreeAt w1 T rt rm tb nd' → TurnX [Wk] T rt rm nd nd' w w1 → w1.heap[Wk]? = some (walkM T (bs a) (.slice o n cap) hops true (undoF Bm Bd)) → UndoE T rt rm tb Wk base Bm Bd nd a (.slice o n cap) hops true md v w w1 := fun w1 nd' g2 g3 g4 g5 =>
        ⟨nd', v, g2, g3, g4.more (fun i hi => List.mem_cons.2 (.inl (List.mem_singleton.1 hi))), g5, Hm.out.turn g4 H1.out H2.out H3.out, fun k hk => .inl hk⟩
      have Fin := Lib.hid fin
      by_cases h0 : no = 0
      · obtain rfl : dn = true := by
          cases dn with
          | true => rfl
          | false => exact absurd ⟨rfl, h0⟩ hmd
        subst h0
        have e0 : errV 0 = .nilIface := rfl
        rw [e0] at Hmiss ⊢
        clear hmd hmd2 fin e0
        go_enter Tryz.func44, Tryz.ntmps44
        go_wp2_with (first
          | (go_at_call 25; refine Hmiss.out.mono ?_; rintro r w1 ⟨rfl, nd', g2, g3, g4, g5⟩
             have HF := Lib.hid (Fin.out w1 nd' g2 g3 g4 g5)
             clear g2 g3 g4 g5))
        go_ret2
        exact ⟨rfl, HF.out⟩
      · rw [errV_pos h0] at Hmiss ⊢
        clear hmd hmd2 fin h0
        go_enter Tryz.func44, Tryz.ntmps44
        go_wp2_with (first
          | (go_at_call 25; refine Hmiss.out.mono ?_; rintro r w1 ⟨rfl, nd', g2, g3, g4, g5⟩
             have HF := Lib.hid (Fin.out w1 nd' g2 g3 g4 g5)
             clear g2 g3 g4 g5))
        go_ret2
        exact ⟨rfl, HF.out⟩
  | false =>
    have hmiss := Hmiss.out
    rw [show missF false = 23 from rfl] at hmiss hbm
    clear Hmiss
    have Hmiss := Lib.hid hmiss
    clear hmiss
    by_cases hmd : dn = false ∧ no = 0
    · obtain ⟨rfl, rfl⟩ := hmd
      have e0 : errV 0 = .nilIface := rfl
      rw [e0] at Hmiss ⊢
      simp only [show ((!false && (0 : Nat) == 0) = true) = True from by simp, if_true] at Hmiss ⊢
      clear e0
      go_enter Tryz.func44, Tryz.ntmps44
      go_wp2_with (first
        | (go_at_call 23; refine Hmiss.out.mono ?_; rintro r w1 ⟨rfl, nd', g2, g3, g4, g5⟩
           have hm1 := Hm.out.turn g4 H1.out H2.out H3.out
           have hsz := g4.size
           have hvc := hm1.bd.cell
           have hvf := hm1.bd.frozen
           have hrow : w1.ownsRow base 9 1 v m (md.map encS) := (by rw [Hml.out]; exact hm1.tx)
           have Hv := Lib.hid hm1.bd
           have Hrow := Lib.hid hrow
           have Hm1 := Lib.hid hm1
           have G2 := Lib.hid g2
           have G3 := Lib.hid g3
           have G4 := Lib.hid g4
           have G5 := Lib.hid g5
           have hbase : base ≤ w1.heap.size := Nat.le_trans hW hsz
           clear hm1 hrow g2 g3 g4 g5 hbm)
        | (at_builtin; go_loud (refine wpList_append_own_at _ rfl _ _ 43 rfl base 9 i0 (.string ⟨#[]⟩) 1 16 Tryz.underlying43 Hi.out Hz0.out Hz1.out Hz2.out rfl (by decide) _ _ _ rfl (Hrow.out.alloc _) ⟨w1.heap.size, 0, none⟩ 1 1 [encS q] rfl rfl (cell_one_new _ _ _) (by simp [Value.oneCell', encS]) (by unfold maxLen; omega) (by omega) (by simp; omega) ?_); intro v' w2 hown' hgrow _ hblk; obtain ⟨g', cap', rfl⟩ := ownsRow_succ hown'; obtain ⟨hv1, hv2, hr2, hk2, hb3⟩ := Hv.out.appended (by decide) Hrow.out hbase Hm1.out.lo.1 hown' hgrow; have hc1 := hv1.cell; have hf1 := hv1.frozen
           have Hgrow := Lib.hid hgrow
           have Hblk := Lib.hid hblk
           have Hv2 := Lib.hid hv2
           have Hr2 := Lib.hid hr2
           clear hown' hgrow hblk hv1 hv2 hr2 hk2 hb3))
      go_ret2
      exact undo1_end Hm1.out G2.out G3.out G4.out G5.out Hgrow.out Hblk.out Hv2.out (texts_snoc (u := encS q) (by rw [← Hml.out]; exact Hr2.out) rfl) H1.out H2.out H3.out hne HN.out Hwl.out (fun k hk => Hlt.out k hk) Hbl.out
    · have hmd2 : (!dn && (no == 0)) = false := by
        cases dn with
        | true => rfl
        | false =>
          have : no ≠ 0 := fun e => hmd ⟨rfl, e⟩
          simp [this]
      simp only [show ((!dn && (no == 0)) = true) = False from by rw [hmd2]; simp, if_false] at Hmiss ⊢
      have fin : ∀ w1 nd', ents nd' = ents nd → TreeAt w1 T rt rm tb nd' → TurnX [Wk] T rt rm nd nd' w w1 → w1.heap[Wk]? = some (walkM T (bs a) (.slice o n cap) hops false (undoF Bm Bd)) → UndoE T rt rm tb Wk base Bm Bd nd a (.slice o n cap) hops false md v w w1 := fun w1 nd' g2 g3 g4 g5 =>
        ⟨nd', v, g2, g3, g4.more (fun i hi => List.mem_cons.2 (.inl (List.mem_singleton.1 hi))), g5, Hm.out.turn g4 H1.out H2.out H3.out, fun k hk => .inl hk⟩
      have Fin := Lib.hid fin
      by_cases h0 : no = 0
      · obtain rfl : dn = true := by
          cases dn with
          | true => rfl
          | false => exact absurd ⟨rfl, h0⟩ hmd
        subst h0
        have e0 : errV 0 = .nilIface := rfl
        rw [e0] at Hmiss ⊢
        clear hmd hmd2 fin e0
        go_enter Tryz.func44, Tryz.ntmps44
        go_wp2_with (first
          | (go_at_call 23; refine Hmiss.out.mono ?_; rintro r w1 ⟨rfl, nd', g2, g3, g4, g5⟩
             have HF := Lib.hid (Fin.out w1 nd' g2 g3 g4 g5)
             clear g2 g3 g4 g5))
        go_ret2
        exact ⟨rfl, HF.out⟩
      · rw [errV_pos h0] at Hmiss ⊢
        clear hmd hmd2 fin h0
        go_enter Tryz.func44, Tryz.ntmps44
        go_wp2_with (first
          | (go_at_call 23; refine Hmiss.out.mono ?_; rintro r w1 ⟨rfl, nd', g2, g3, g4, g5⟩
             have HF := Lib.hid (Fin.out w1 nd' g2 g3 g4 g5)
             clear g2 g3 g4 g5))
        go_ret2
        exact ⟨rfl, HF.out⟩
end
section
open Go.RowKit Go.Maps Go.Shelf
open Go.Lib hiding intOf size_eq
theorem walkM_setLeft {w : World} {Wk T : Nat} {a : ByteArray} {lv : Value} {hops : Int} {mk : Bool} {mf : Value} (h : w.heap[Wk]? = some (walkM T a lv hops mk mf)) (v : Value) : (w.setCell ⟨Wk, 2, none⟩ v).heap[Wk]? = some (walkM T a v hops mk mf) := by
  unfold walkM at *
  exact Go.heap_setCell_same w Wk 2 _ _ _ h
theorem walkM_setHops {w : World} {Wk T : Nat} {a : ByteArray} {lv : Value} {hops : Int} {mk : Bool} {mf : Value} (h : w.heap[Wk]? = some (walkM T a lv hops mk mf)) (n : Int) : (w.setCell ⟨Wk, 3, none⟩ (.int .i64 n)).heap[Wk]? = some (walkM T a lv n mk mf) := by
  unfold walkM at *
  exact Go.heap_setCell_same w Wk 3 _ _ _ h
def LinkEndM (w w5 : World) (T Wk : Nat) (a : ByteArray) (L : List (List UInt8)) (hops : Nat) (keep : Bool) (sv : Value) (o' : Option Addr) (n cap' : Nat) : Prop :=
  But [Wk] w (w5.setCell ⟨Wk, 2, none⟩ (.slice o' n cap')) ∧ (w5.setCell ⟨Wk, 2, none⟩ (.slice o' n cap')).heap[Wk]? = some (walkM T a (.slice o' L.length cap') ((hops + 1 : Nat) : Int) keep sv) ∧ LeftA (w5.setCell ⟨Wk, 2, none⟩ (.slice o' n cap')) o' cap' L ∧ ∀ b, o' = some b → w.heap.size ≤ b.block
theorem link_endM {w w5 : World} {T Wk : Nat} {a : ByteArray} {lv : Value} {L : List (List UInt8)} {hops : Nat} {keep : Bool} {sv : Value} {o' : Option Addr} {n cap' : Nat} (hb : But [Wk] w w5) (h : w5.heap[Wk]? = some (walkM T a lv ((hops : Int) + 1) keep sv)) (hl : LeftA w5 o' cap' L)
    (hlo : ∀ b, o' = some b → w.heap.size ≤ b.block) (hne : ∀ b, o' = some b → b.block ≠ Wk) (hn : n = L.length) : LinkEndM w w5 T Wk a L hops keep sv o' n cap' := by
  subst hn
  refine ⟨hb.setCell (p := ⟨Wk, 2, none⟩) (.inl (List.mem_singleton.2 rfl)) _, ?_, ?_, hlo⟩
  · rw [walkM_setLeft h]
    rfl
  · exact hl.but ((But.refl [Wk] w5).setCell (p := ⟨Wk, 2, none⟩) (.inl (List.mem_singleton.2 rfl)) _) (fun b hb2 => by simpa using hne b hb2)
set_option maxRecDepth 100000 in
set_option maxHeartbeats 4000000 in
theorem link_make_any {T Wk cap : Nat} {a : ByteArray} {ad : Addr} {left : List (List UInt8)} {hops : Nat} {keep : Bool} {sv : Value} (t : ByteArray) (w : World) (hw : w.heap[Wk]? = some (walkM T a (.slice (some ad) left.length cap) hops keep sv))
    (hl : LeftA w (some ad) cap left) (ho : ad.block ≠ Wk) (ht0 : t.data.toList ≠ []) (ht : t.size ≤ 1099511627776) (hll : left.length ≤ 1099511627776) (hh : hops ≤ 40) :
    Calls Tryz.prog 57 #[.pointer (some ⟨Wk, 0, none⟩), .string t] w fun e w' => But [Wk] w w' ∧ (hops = 40 → e = .returned (.iface 57 (.int .i64 12))) ∧
      (hops ≠ 40 → e = .returned .nilIface ∧ ∃ o' cap', w'.heap[Wk]? = some (walkM T (linkB a t) (.slice o' (pieces t.data.toList ++ left).length cap') ((hops + 1 : Nat) : Int) keep sv) ∧ LeftA w' o' cap' (pieces t.data.toList ++ left) ∧ ∀ b, o' = some b → w.heap.size ≤ b.block) := by
  obtain ⟨_, c1, c2, c3, _, _, _, _⟩ := walkM_cells hw
  have f1 := walkM_frozen hw 1
  have f2 := walkM_frozen hw 2
  have f3 := walkM_frozen hw 3
  by_cases h40 : hops = 40
  · subst h40
    clear hw hl
    go_enter Tryz.func57, Tryz.ntmps57
    go_wp2
    go_ret
    exact ⟨But.refl _ _, fun _ => rfl, fun h => absurd rfl h⟩
  · have b0 : ((hops : Int) == 40) = false := by simp; omega
    have hn0 : 0 < t.size := by rw [Lib.size_eq]; exact List.length_pos_iff.2 ht0
    obtain ⟨i0, hi, hz0, hz1, hz2⟩ := info_parts Tryz.infoString
    have Hi := Lib.hid hi
    have Hz0 := Lib.hid hz0
    have Hz1 := Lib.hid hz1
    have Hz2 := Lib.hid hz2
    obtain ⟨n, hnn⟩ : ∃ n, n = (pieces t.data.toList).length := ⟨_, rfl⟩
    have hlen : n + left.length ≤ 4398046511104 := by
      have h1 := weight_length (pieces t.data.toList)
      have h2 := weight_pieces t.data.toList
      rw [← Lib.size_eq] at h2
      omega
    clear hi hz0 hz1 hz2
    by_cases hb : t.data.toList.head? = some 47
    · have b1 : (((t[0]'hn0).toNat : Int) == 47) = true := by rw [head_byte hn0] at hb; injection hb with hb; rw [hb]; rfl
      go_enter Tryz.func57, Tryz.ntmps57
      go_upto_region 6 with fail
      obtain ⟨w3, hw3⟩ : ∃ x, x = ((w.setCell ⟨Wk, 3, none⟩ (.int .i64 ((hops : Int) + 1))).setCell ⟨Wk, 1, none⟩ (.string ⟨#[]⟩)) := ⟨_, rfl⟩
      have H3 : w3.heap[Wk]? = some (walkM T emp (.slice (some ad) left.length cap) ((hops : Int) + 1) keep sv) := by rw [hw3]; exact walkM_setAt (walkM_setHops hw ((hops : Int) + 1)) ⟨#[]⟩
      have hB3 : But [Wk] w w3 := by rw [hw3]; exact ((But.refl [Wk] w).setCell (p := ⟨Wk, 3, none⟩) (.inl (List.mem_singleton.2 rfl)) _).setCell (p := ⟨Wk, 1, none⟩) (.inl (List.mem_singleton.2 rfl)) _
      have hlink : linkB a t = emp := if_pos hb
      have hL3 := hl.but hB3 (fun b hb2 => by injection hb2 with hb2; subst hb2; simpa using ho)
      have d2 := (walkM_cells H3).2.2.1
      have hWk := heap_lt H3
      have after : ∀ w4 v, Texts w4 w3.heap.size v (pieces t.data.toList) → Below w3.heap.size w3 w4 → ∃ o2 cap2, v = .slice o2 n cap2 ∧ w4.ownsRow w3.heap.size 9 1 (.slice o2 n cap2) n ((pieces t.data.toList).map encS) ∧ (∀ j u, (left.map encS)[j]? = some u → w4.cell? (ad.add j) = some u) ∧ w3.heap.size ≤ w4.heap.size ∧ w4.cell? ⟨Wk, 2, none⟩ = some (.slice (some ad) left.length cap) ∧
          ∀ v' w5, w5.ownsRow w3.heap.size 9 1 v' (n + left.length) ((pieces t.data.toList).map encS ++ left.map encS) → w4.grownBy w5 (Value.slice o2 n cap2).ownBlock → ∃ o' cap', v' = .slice o' (n + left.length) cap' ∧ w5.frozen? ⟨Wk, 2, none⟩ = false ∧ w5.cell? ⟨Wk, 2, none⟩ = some (.slice (some ad) left.length cap) ∧ LinkEndM w w5 T Wk (linkB a t) (pieces t.data.toList ++ left) hops keep sv o' (n + left.length) cap' := by
        intro w4 v htx hb4
        obtain ⟨o2, cap2, rfl, hla2, hlo2⟩ := left_of_texts htx
        have h4 : w4.heap[Wk]? = _ := (hb4.block Wk hWk).trans H3
        refine ⟨o2, cap2, by rw [hnn], by rw [hnn]; exact htx, ?_, hb4.size, (walkM_cells h4).2.2.1, ?_⟩
        · intro j u hu
          rw [List.getElem?_map] at hu
          obtain ⟨x, hx, rfl⟩ := Option.map_eq_some_iff.1 hu
          obtain ⟨b, hb2, hc⟩ := hL3.cell j x hx
          injection hb2 with hb2
          subst hb2
          have hlt := hL3.lt _ rfl
          unfold World.cell? at hc ⊢
          rw [add_block] at hc ⊢
          rw [hb4.block _ hlt]
          exact hc
        · intro v' w5 hown hgr
          have hown2 : Texts w5 w3.heap.size v' (pieces t.data.toList ++ left) := by
            unfold Texts
            rw [List.length_append, List.map_append, ← hnn]
            exact hown
          obtain ⟨o', cap', rfl, hla, hlo⟩ := left_of_texts hown2
          have h5 : w5.heap[Wk]? = _ := (hgr.block Wk (Nat.lt_of_lt_of_le hWk hb4.size) (fun e => by
            cases o2 with
            | none => simp [Value.ownBlock] at e
            | some g => simp [Value.ownBlock] at e; have := hlo2 g rfl; omega)).trans h4
          have hb5 : But [Wk] w w5 := (hB3.below hb4).grown hgr (fun k e => .inr (by
            cases o2 with
            | none => simp [Value.ownBlock] at e
            | some g => simp [Value.ownBlock] at e; have := hlo2 g rfl; have := hB3.size; omega))
          refine ⟨o', cap', by rw [List.length_append, hnn], walkM_frozen h5 2, (walkM_cells h5).2.2.1, ?_⟩
          refine link_endM hb5 (by rw [hlink]; exact h5) hla (fun b hb2 => by have := hlo b hb2; have := hB3.size; omega) (fun b hb2 => by have := hlo b hb2; have hwk := heap_lt H3; omega) (by rw [List.length_append, hnn])
      have H2 := Lib.hid (fun W => pieces_any t W ht)
      have HA := Lib.hid after
      have Hlen := Lib.hid hlen
      have D2 := d2
      rw [← hw3]
      clear hnn hw hl hw3 H3 hB3 hlink hL3 after c1 c2 c3 f1 f2 f3 hb hlen
      go_region_law (first
        | (refine step_append_own (by rfl) _ _ 43 (by rfl) w3.heap.size 9 i0 (.string ⟨#[]⟩) 1 16 Tryz.underlying43 Hi.out Hz0.out Hz1.out Hz2.out rfl (by decide) _ n _ (by rfl) HR.out ad left.length cap (left.map encS) (by rfl) (by simp) HN.out (by intro u hu; obtain ⟨x, _, rfl⟩ := List.mem_map.1 hu; rfl) (by unfold maxLen; have := Hlen.out; omega) (by have := Hlen.out; omega) hs4 ?_
           intro v' w5 hown hgr _
           obtain ⟨o', cap', rfl, hf5, hc5, hend⟩ := HX.out v' w5 hown hgr
           have HE := Lib.hid hend
           clear hown hgr hend)
        | (go_simp; go_at_call 18; refine (H2.out _).mono ?_; rintro e w4 ⟨v, rfl, htx, hb4⟩
           obtain ⟨o2, cap2, rfl, hr, hnw, hs4, hc4, hx⟩ := HA.out w4 v htx ⟨hb4.os, hb4.tape, hb4.output, hb4.size, hb4.block⟩
           have HR := Lib.hid hr
           have HN := Lib.hid hnw
           have HX := Lib.hid hx
           clear htx hb4 hr hnw hx))
      all_goals go_wp2_with fail
      all_goals go_ret
      all_goals exact ⟨HE.out.1, fun h => absurd h h40, fun _ => ⟨rfl, _, _, HE.out.2.1, HE.out.2.2.1, HE.out.2.2.2⟩⟩
    · have b1 : (((t[0]'hn0).toNat : Int) == 47) = false := by
        rw [head_byte hn0] at hb
        simp only [beq_eq_false_iff_ne, ne_eq]
        intro h
        exact hb (by congr 1; exact UInt8.toNat_inj.1 (by have : (47 : UInt8).toNat = 47 := rfl; omega))
      go_enter Tryz.func57, Tryz.ntmps57
      go_upto_region 6 with fail
      obtain ⟨w3, hw3⟩ : ∃ x, x = (w.setCell ⟨Wk, 3, none⟩ (.int .i64 ((hops : Int) + 1))) := ⟨_, rfl⟩
      have H3 : w3.heap[Wk]? = some (walkM T a (.slice (some ad) left.length cap) ((hops : Int) + 1) keep sv) := by rw [hw3]; exact walkM_setHops hw ((hops : Int) + 1)
      have hB3 : But [Wk] w w3 := by rw [hw3]; exact (But.refl [Wk] w).setCell (p := ⟨Wk, 3, none⟩) (.inl (List.mem_singleton.2 rfl)) _
      have hlink : linkB a t = a := if_neg hb
      have hL3 := hl.but hB3 (fun b hb2 => by injection hb2 with hb2; subst hb2; simpa using ho)
      have d2 := (walkM_cells H3).2.2.1
      have hWk := heap_lt H3
      have after : ∀ w4 v, Texts w4 w3.heap.size v (pieces t.data.toList) → Below w3.heap.size w3 w4 → ∃ o2 cap2, v = .slice o2 n cap2 ∧ w4.ownsRow w3.heap.size 9 1 (.slice o2 n cap2) n ((pieces t.data.toList).map encS) ∧ (∀ j u, (left.map encS)[j]? = some u → w4.cell? (ad.add j) = some u) ∧ w3.heap.size ≤ w4.heap.size ∧ w4.cell? ⟨Wk, 2, none⟩ = some (.slice (some ad) left.length cap) ∧
          ∀ v' w5, w5.ownsRow w3.heap.size 9 1 v' (n + left.length) ((pieces t.data.toList).map encS ++ left.map encS) → w4.grownBy w5 (Value.slice o2 n cap2).ownBlock → ∃ o' cap', v' = .slice o' (n + left.length) cap' ∧ w5.frozen? ⟨Wk, 2, none⟩ = false ∧ w5.cell? ⟨Wk, 2, none⟩ = some (.slice (some ad) left.length cap) ∧ LinkEndM w w5 T Wk (linkB a t) (pieces t.data.toList ++ left) hops keep sv o' (n + left.length) cap' := by
        intro w4 v htx hb4
        obtain ⟨o2, cap2, rfl, hla2, hlo2⟩ := left_of_texts htx
        have h4 : w4.heap[Wk]? = _ := (hb4.block Wk hWk).trans H3
        refine ⟨o2, cap2, by rw [hnn], by rw [hnn]; exact htx, ?_, hb4.size, (walkM_cells h4).2.2.1, ?_⟩
        · intro j u hu
          rw [List.getElem?_map] at hu
          obtain ⟨x, hx, rfl⟩ := Option.map_eq_some_iff.1 hu
          obtain ⟨b, hb2, hc⟩ := hL3.cell j x hx
          injection hb2 with hb2
          subst hb2
          have hlt := hL3.lt _ rfl
          unfold World.cell? at hc ⊢
          rw [add_block] at hc ⊢
          rw [hb4.block _ hlt]
          exact hc
        · intro v' w5 hown hgr
          have hown2 : Texts w5 w3.heap.size v' (pieces t.data.toList ++ left) := by
            unfold Texts
            rw [List.length_append, List.map_append, ← hnn]
            exact hown
          obtain ⟨o', cap', rfl, hla, hlo⟩ := left_of_texts hown2
          have h5 : w5.heap[Wk]? = _ := (hgr.block Wk (Nat.lt_of_lt_of_le hWk hb4.size) (fun e => by
            cases o2 with
            | none => simp [Value.ownBlock] at e
            | some g => simp [Value.ownBlock] at e; have := hlo2 g rfl; omega)).trans h4
          have hb5 : But [Wk] w w5 := (hB3.below hb4).grown hgr (fun k e => .inr (by
            cases o2 with
            | none => simp [Value.ownBlock] at e
            | some g => simp [Value.ownBlock] at e; have := hlo2 g rfl; have := hB3.size; omega))
          refine ⟨o', cap', by rw [List.length_append, hnn], walkM_frozen h5 2, (walkM_cells h5).2.2.1, ?_⟩
          refine link_endM hb5 (by rw [hlink]; exact h5) hla (fun b hb2 => by have := hlo b hb2; have := hB3.size; omega) (fun b hb2 => by have := hlo b hb2; have hwk := heap_lt H3; omega) (by rw [List.length_append, hnn])
      have H2 := Lib.hid (fun W => pieces_any t W ht)
      have HA := Lib.hid after
      have Hlen := Lib.hid hlen
      have D2 := d2
      rw [← hw3]
      clear hnn hw hl hw3 H3 hB3 hlink hL3 after c1 c2 c3 f1 f2 f3 hb hlen
      go_region_law (first
        | (refine step_append_own (by rfl) _ _ 43 (by rfl) w3.heap.size 9 i0 (.string ⟨#[]⟩) 1 16 Tryz.underlying43 Hi.out Hz0.out Hz1.out Hz2.out rfl (by decide) _ n _ (by rfl) HR.out ad left.length cap (left.map encS) (by rfl) (by simp) HN.out (by intro u hu; obtain ⟨x, _, rfl⟩ := List.mem_map.1 hu; rfl) (by unfold maxLen; have := Hlen.out; omega) (by have := Hlen.out; omega) hs4 ?_
           intro v' w5 hown hgr _
           obtain ⟨o', cap', rfl, hf5, hc5, hend⟩ := HX.out v' w5 hown hgr
           have HE := Lib.hid hend
           clear hown hgr hend)
        | (go_simp; go_at_call 18; refine (H2.out _).mono ?_; rintro e w4 ⟨v, rfl, htx, hb4⟩
           obtain ⟨o2, cap2, rfl, hr, hnw, hs4, hc4, hx⟩ := HA.out w4 v htx ⟨hb4.os, hb4.tape, hb4.output, hb4.size, hb4.block⟩
           have HR := Lib.hid hr
           have HN := Lib.hid hnw
           have HX := Lib.hid hx
           clear htx hb4 hr hnw hx))
      all_goals go_wp2_with fail
      all_goals go_ret
      all_goals exact ⟨HE.out.1, fun h => absurd h h40, fun _ => ⟨rfl, _, _, HE.out.2.1, HE.out.2.2.1, HE.out.2.2.2⟩⟩
set_option maxRecDepth 100000 in
theorem link_full_any {T Wk : Nat} {a : ByteArray} {lv : Value} {hops : Nat} {mk : Bool} {mf : Value} (t : ByteArray) (w : World) (h40 : hops = 40) (hw : w.heap[Wk]? = some (walkM T a lv hops mk mf)) :
    Calls Tryz.prog 57 #[.pointer (some ⟨Wk, 0, none⟩), .string t] w fun e w' => e = .returned (.iface 57 (.int .i64 12)) ∧ w = w' := by
  subst h40
  obtain ⟨_, _, _, c3, _, _, _, _⟩ := walkM_cells hw
  clear hw
  go_enter Tryz.func57, Tryz.ntmps57
  go_wp2
  go_ret
  exact ⟨rfl, rfl⟩
end
section
open Go.RowKit Go.Maps Go.Shelf
open Go.Lib hiding intOf size_eq
theorem after_getM {w : World} {T Wk cap n Bm Bd : Nat} {a : ByteArray} {o : Option Addr} {hops : Int} {mk : Bool} (w1 : World) (e : Ent) (hw : w.heap[Wk]? = some (walkM T a (.slice o n cap) hops mk (undoF Bm Bd))) (h1 : Below w.heap.size w w1) :
    ∃ w2, w2 = (w1.alloc (.cells #[.string ⟨#[]⟩, .int .i64 0, .int .i64 0, .string ⟨#[]⟩, .string ⟨#[]⟩] 39)).setRow w1.heap.size #[.string e.p, .int .i64 e.k, .int .i64 e.m, .string e.d, .string e.l] ∧
      (w1.alloc (.cells #[.string ⟨#[]⟩, .int .i64 0, .int .i64 0, .string ⟨#[]⟩, .string ⟨#[]⟩] 39)).heap[w1.heap.size]? = some (.cells #[.string ⟨#[]⟩, .int .i64 0, .int .i64 0, .string ⟨#[]⟩, .string ⟨#[]⟩] 39 (0, 0)) ∧
      w2.cell? ⟨Wk, 1, none⟩ = some (.string a) ∧ w2.cell? ⟨Wk, 2, none⟩ = some (.slice o n cap) ∧ w2.cell? ⟨Wk, 3, none⟩ = some (.int .i64 hops) ∧ w2.cell? ⟨Wk, 4, none⟩ = some (.bool false) ∧ w2.cell? ⟨Wk, 5, none⟩ = some (.bool mk) ∧ w2.cell? ⟨Wk, 6, none⟩ = some (.func (.func 44) #[] #[.pointer (some ⟨Bm, 0, none⟩), .pointer (some ⟨Bd, 0, none⟩)]) ∧
      w2.cell? ⟨w1.heap.size, 1, none⟩ = some (.int .i64 e.k) ∧ w2.cell? ⟨w1.heap.size, 4, none⟩ = some (.string e.l) ∧ w2.frozen? ⟨Wk, 1, none⟩ = false ∧
      Below w.heap.size w w2 ∧ w2.heap[Wk]? = some (walkM T a (.slice o n cap) hops mk (undoF Bm Bd)) := by
  have hb0 := World.alloc_heap_new w1 (.cells #[.string ⟨#[]⟩, .int .i64 0, .int .i64 0, .string ⟨#[]⟩, .string ⟨#[]⟩] 39)
  have hb2 : Below w.heap.size w ((w1.alloc (.cells #[.string ⟨#[]⟩, .int .i64 0, .int .i64 0, .string ⟨#[]⟩, .string ⟨#[]⟩] 39)).setRow w1.heap.size #[.string e.p, .int .i64 e.k, .int .i64 e.m, .string e.d, .string e.l]) := by
    have h := h1.alloc h1.size (.cells #[.string ⟨#[]⟩, .int .i64 0, .int .i64 0, .string ⟨#[]⟩, .string ⟨#[]⟩] 39)
    exact ⟨h.os, h.tape, h.output, by simpa using h.size, fun k hk => (setRow_other _ w1.heap.size k _ (by have := h1.size; omega)).trans (h.block k hk)⟩
  have hrow := setRow_at (cs := #[.string e.p, .int .i64 e.k, .int .i64 e.m, .string e.d, .string e.l]) hb0
  have hwk := (hb2.block Wk (heap_lt hw)).trans hw
  obtain ⟨_, c1, c2, c3, c4, c5, c6, _⟩ := walkM_cells hwk
  refine ⟨_, rfl, hb0, c1, c2, c3, c4, c5, c6, ?_, ?_, walkM_frozen hwk 1, hb2, hwk⟩
  · unfold World.cell?
    rw [hrow]
    rfl
  · unfold World.cell?
    rw [hrow]
    rfl
/-- what is there, on a walk that makes -/
def pieceM (mk : Bool) (a q : List UInt8) (left : List (List UInt8)) (hops : Nat) (e : Ent) : Except Nat (Option (List UInt8 × List (List UInt8) × Nat)) :=
  if e.k = 1 then .ok (some (q, left, hops)) else if e.k = 2 then (if mk = true ∨ left ≠ [] then .error 13 else .ok none) else if hops = 40 then .error 12 else .ok (some (linkAt a e, pieces e.l.data.toList ++ left, hops + 1))
def PieceM (mk : Bool) (T Wk Bm Bd : Nat) (a q : List UInt8) (left : List (List UInt8)) (hops : Nat) (e : Ent) (ad : Addr) (cap : Nat) (w : World) (r : Ending) (w' : World) : Prop :=
  But [Wk] w w' ∧ match pieceM mk a q left hops e with
    | .error n => r = .returned (.tuple #[.bool false, errV n]) ∧ w'.heap[Wk]? = some (walkM T (bs a) (.slice (some ad) left.length cap) hops mk (undoF Bm Bd))
    | .ok none => r = .returned (.tuple #[.bool true, .nilIface]) ∧ w'.heap[Wk]? = some (walkM T (bs a) (.slice (some ad) left.length cap) hops mk (undoF Bm Bd))
    | .ok (some (a', left', hops')) => r = .returned (.tuple #[.bool false, .nilIface]) ∧ ∃ o' cap', w'.heap[Wk]? = some (walkM T (bs a') (.slice o' left'.length cap') hops' mk (undoF Bm Bd)) ∧ LeftA w' o' cap' left' ∧ (o' = some ad ∨ ∀ b, o' = some b → w.heap.size ≤ b.block)
set_option maxRecDepth 100000 in
set_option maxHeartbeats 8000000 in
theorem piece_there_any {T rt rm tb Wk cap Bm Bd : Nat} {nd : List Nd} {a : List UInt8} {ad : Addr} {left : List (List UInt8)} {hops : Nat} {mk : Bool} (c : ByteArray) (q : List UInt8) (e : Ent) (w : World) (ht : TreeAt w T rt rm tb nd) (hw : w.heap[Wk]? = some (walkM T (bs a) (.slice (some ad) left.length cap) hops mk (undoF Bm Bd)))
    (hl : LeftA w (some ad) cap left) (ho : ad.block ≠ Wk) (hqs : q.length < 4611686018427387904) (hll : left.length ≤ 1099511627776) (hh : hops ≤ 40) (hq : lookE (ents nd) q = some e) :
    Calls Tryz.prog 36 #[.pointer (some ⟨Wk, 0, none⟩), .string c, .string (bs q)] w fun r w' => PieceM mk T Wk Bm Bd a q left hops e ad cap w r w' := by
  have hget := get_any (bs q) w ht (by rw [bs_size]; exact hqs)
  have hgood := ht.good
  obtain ⟨c0, _, _, _, _, _, _, _⟩ := walkM_cells hw
  clear ht
  have hget2 : Calls Tryz.prog 56 #[.pointer (some ⟨T, 0, none⟩), .string (bs q)] w fun r w' => r = .returned (.tuple #[.agg #[.string e.p, .int .i64 e.k, .int .i64 e.m, .string e.d, .string e.l], .bool true]) ∧ Below w.heap.size w w' := by rw [bs_toList, hq] at hget; exact hget
  have Hget := Lib.hid hget2
  have Haf := Lib.hid (fun w1 h1 => after_getM w1 e hw h1)
  have Hl := Lib.hid hl
  have hpf : pieceM mk a q left hops e = (if e.k = 1 then .ok (some (q, left, hops)) else if e.k = 2 then (if mk = true ∨ left ≠ [] then .error 13 else .ok none) else if hops = 40 then .error 12 else .ok (some (linkAt a e, pieces e.l.data.toList ++ left, hops + 1))) := rfl
  have hlk40 := fun (h4 : hops = 40) (W : World) (h1 : W.heap[Wk]? = some (walkM T (bs a) (.slice (some ad) left.length cap) (hops : Int) mk (undoF Bm Bd))) => link_full_any e.l W h4 h1
  have hlk : ∀ (h1 : e.k ≠ 1) (h2 : e.k ≠ 2) W, W.heap[Wk]? = some (walkM T (bs a) (.slice (some ad) left.length cap) (hops : Int) mk (undoF Bm Bd)) → LeftA W (some ad) cap left → _ := fun k1 k2 W h1 h2 => link_make_any (sv := undoF Bm Bd) e.l W h1 h2 ho (link_short hgood hq k1 k2).2 (by have := link_size hgood hq k1 k2; omega) hll hh
  by_cases k1 : e.k = 1
  · rw [if_pos k1] at hpf
    have Hp := Lib.hid hpf
    have b1 : (e.k == 1) = true := by simpa using k1
    clear hget hget2 hq hw hl hpf k1 hlk hlk40
    go_enter Tryz.func36, Tryz.ntmps36
    go_wp2_with (first
      | (go_at_call 56; refine Hget.out.mono ?_; rintro e w1 ⟨rfl, hb1⟩
         obtain ⟨w2, hw2, hz, d0, d1, d2, d3, d4, d5, x1, x4, g1, hb2, hblk⟩ := Haf.out w1 hb1
         have Hz := Lib.hid hz
         have Hw2 := Lib.hid hw2
         have HB := Lib.hid ((But.refl [Wk] w).below hb2)
         have HB2 := Lib.hid hb2
         have HW := Lib.hid hblk
         have HL := Lib.hid (Hl.out.but HB.out (fun b hb => by injection hb with hb; subst hb; simpa using ho))
         clear hb1 hw2 hz hb2 hblk)
      | (refine wpList_store_row rfl _ _ _ rfl w1.heap.size #[.string e.p, .int .i64 e.k, .int .i64 e.m, .string e.d, .string e.l] rfl rfl 39 _ Hz.out (by kernel_rfl) rfl (by kernel_rfl) ?_; rw [← Hw2.out]))
    go_ret2
    refine ⟨HB.out.setCell (p := ⟨Wk, 1, none⟩) (.inl (List.mem_singleton.2 rfl)) _, ?_⟩
    rw [Hp.out]
    exact ⟨rfl, _, _, walkM_setAt HW.out _, HL.out.but ((But.refl [Wk] w2).setCell (p := ⟨Wk, 1, none⟩) (.inl (List.mem_singleton.2 rfl)) _) (fun b hb => by injection hb with hb; subst hb; simpa using ho), .inl rfl⟩
  have b1 : (e.k == 1) = false := by simpa using k1
  rw [if_neg k1] at hpf
  by_cases k2 : e.k = 2
  · have b2 : (e.k == 2) = true := by simpa using k2
    rw [if_pos k2] at hpf
    cases mk with
    | true =>
      rw [if_pos (.inl rfl)] at hpf
      have Hp := Lib.hid hpf
      clear hget hget2 hq hw hl hpf k1 k2 hlk hlk40
      go_enter Tryz.func36, Tryz.ntmps36
      go_wp2_with (first
        | (go_at_call 56; refine Hget.out.mono ?_; rintro e w1 ⟨rfl, hb1⟩
           obtain ⟨w2, hw2, hz, d0, d1, d2, d3, d4, d5, x1, x4, g1, hb2, hblk⟩ := Haf.out w1 hb1
           have Hz := Lib.hid hz
           have Hw2 := Lib.hid hw2
           have HB := Lib.hid ((But.refl [Wk] w).below hb2)
           have HB2 := Lib.hid hb2
           have HW := Lib.hid hblk
           have HL := Lib.hid (Hl.out.but HB.out (fun b hb => by injection hb with hb; subst hb; simpa using ho))
           clear hb1 hw2 hz hb2 hblk)
        | (refine wpList_store_row rfl _ _ _ rfl w1.heap.size #[.string e.p, .int .i64 e.k, .int .i64 e.m, .string e.d, .string e.l] rfl rfl 39 _ Hz.out (by kernel_rfl) rfl (by kernel_rfl) ?_; rw [← Hw2.out]))
      go_ret2
      refine ⟨HB.out, ?_⟩
      rw [Hp.out]
      exact ⟨rfl, HW.out⟩
    | false =>
      by_cases hn : left = []
      · rw [if_neg (by simpa using hn)] at hpf
        have b3 : ((left.length : Int) == 0) = true := by rw [hn]; rfl
        have Hp := Lib.hid hpf
        clear hget hget2 hq hw hl hpf k1 k2 hn hlk hlk40
        go_enter Tryz.func36, Tryz.ntmps36
        go_wp2_with (first
          | (go_at_call 56; refine Hget.out.mono ?_; rintro e w1 ⟨rfl, hb1⟩
             obtain ⟨w2, hw2, hz, d0, d1, d2, d3, d4, d5, x1, x4, g1, hb2, hblk⟩ := Haf.out w1 hb1
             have Hz := Lib.hid hz
             have Hw2 := Lib.hid hw2
             have HB := Lib.hid ((But.refl [Wk] w).below hb2)
             have HB2 := Lib.hid hb2
             have HW := Lib.hid hblk
             have HL := Lib.hid (Hl.out.but HB.out (fun b hb => by injection hb with hb; subst hb; simpa using ho))
             clear hb1 hw2 hz hb2 hblk)
          | (refine wpList_store_row rfl _ _ _ rfl w1.heap.size #[.string e.p, .int .i64 e.k, .int .i64 e.m, .string e.d, .string e.l] rfl rfl 39 _ Hz.out (by kernel_rfl) rfl (by kernel_rfl) ?_; rw [← Hw2.out]))
        go_ret2
        refine ⟨HB.out, ?_⟩
        rw [Hp.out]
        exact ⟨rfl, HW.out⟩
      · rw [if_pos (.inr hn)] at hpf
        have b3 : ((left.length : Int) == 0) = false := by have := List.length_pos_iff.2 hn; simp; omega
        have Hp := Lib.hid hpf
        clear hget hget2 hq hw hl hpf k1 k2 hn hlk hlk40
        go_enter Tryz.func36, Tryz.ntmps36
        go_wp2_with (first
          | (go_at_call 56; refine Hget.out.mono ?_; rintro e w1 ⟨rfl, hb1⟩
             obtain ⟨w2, hw2, hz, d0, d1, d2, d3, d4, d5, x1, x4, g1, hb2, hblk⟩ := Haf.out w1 hb1
             have Hz := Lib.hid hz
             have Hw2 := Lib.hid hw2
             have HB := Lib.hid ((But.refl [Wk] w).below hb2)
             have HB2 := Lib.hid hb2
             have HW := Lib.hid hblk
             have HL := Lib.hid (Hl.out.but HB.out (fun b hb => by injection hb with hb; subst hb; simpa using ho))
             clear hb1 hw2 hz hb2 hblk)
          | (refine wpList_store_row rfl _ _ _ rfl w1.heap.size #[.string e.p, .int .i64 e.k, .int .i64 e.m, .string e.d, .string e.l] rfl rfl 39 _ Hz.out (by kernel_rfl) rfl (by kernel_rfl) ?_; rw [← Hw2.out]))
        go_ret2
        refine ⟨HB.out, ?_⟩
        rw [Hp.out]
        exact ⟨rfl, HW.out⟩
  have b2 : (e.k == 2) = false := by simpa using k2
  rw [if_neg k2] at hpf
  have hlk2 := hlk k1 k2
  have Hlk := Lib.hid hlk2
  by_cases h40 : hops = 40
  · rw [if_pos h40] at hpf
    have Hp := Lib.hid hpf
    have H40 := Lib.hid h40
    have Hlk4 := Lib.hid (hlk40 h40)
    clear hget hget2 hq hw hl hpf k1 k2 hlk hlk2 hlk40 h40 Hlk
    go_enter Tryz.func36, Tryz.ntmps36
    go_wp2_with (first
      | (go_at_call 56; refine Hget.out.mono ?_; rintro e w1 ⟨rfl, hb1⟩
         obtain ⟨w2, hw2, hz, d0, d1, d2, d3, d4, d5, x1, x4, g1, hb2, hblk⟩ := Haf.out w1 hb1
         have Hz := Lib.hid hz
         have Hw2 := Lib.hid hw2
         have HB := Lib.hid ((But.refl [Wk] w).below hb2)
         have HB2 := Lib.hid hb2
         have HW := Lib.hid hblk
         have HL := Lib.hid (Hl.out.but HB.out (fun b hb => by injection hb with hb; subst hb; simpa using ho))
         clear hb1 hw2 hz hb2 hblk)
      | (refine wpList_store_row rfl _ _ _ rfl w1.heap.size #[.string e.p, .int .i64 e.k, .int .i64 e.m, .string e.d, .string e.l] rfl rfl 39 _ Hz.out (by kernel_rfl) rfl (by kernel_rfl) ?_; rw [← Hw2.out])
      | (go_at_call 57; refine (Hlk4.out _ HW.out).mono ?_; rintro r w3 ⟨rfl, rfl⟩))
    go_ret2
    refine ⟨HB.out, ?_⟩
    rw [Hp.out]
    exact ⟨rfl, HW.out⟩
  · rw [if_neg h40] at hpf
    have Hp := Lib.hid hpf
    have H40 := Lib.hid h40
    clear hget hget2 hq hw hl hpf k1 k2 hlk hlk2 hlk40 h40
    go_enter Tryz.func36, Tryz.ntmps36
    go_wp2_with (first
      | (go_at_call 56; refine Hget.out.mono ?_; rintro e w1 ⟨rfl, hb1⟩
         obtain ⟨w2, hw2, hz, d0, d1, d2, d3, d4, d5, x1, x4, g1, hb2, hblk⟩ := Haf.out w1 hb1
         have Hz := Lib.hid hz
         have Hw2 := Lib.hid hw2
         have HB := Lib.hid ((But.refl [Wk] w).below hb2)
         have HB2 := Lib.hid hb2
         have HW := Lib.hid hblk
         have HL := Lib.hid (Hl.out.but HB.out (fun b hb => by injection hb with hb; subst hb; simpa using ho))
         clear hb1 hw2 hz hb2 hblk)
      | (refine wpList_store_row rfl _ _ _ rfl w1.heap.size #[.string e.p, .int .i64 e.k, .int .i64 e.m, .string e.d, .string e.l] rfl rfl 39 _ Hz.out (by kernel_rfl) rfl (by kernel_rfl) ?_; rw [← Hw2.out])
      | (go_at_call 57; refine (Hlk.out _ HW.out HL.out).mono ?_; rintro r w3 ⟨h1, h2, h3⟩
         obtain ⟨rfl, o', cap', h4, h5, h6⟩ := h3 H40.out
         have HB3 := Lib.hid h1
         have HW3 := Lib.hid h4
         have HL3 := Lib.hid h5
         have HO3 := Lib.hid h6
         clear h1 h2 h3 h4 h5 h6))
    go_ret2
    refine ⟨HB.out.trans HB3.out (fun i hi => .inl hi), ?_⟩
    rw [Hp.out]
    refine ⟨rfl, o', cap', ?_, HL3.out, .inr (fun b hb => Nat.le_trans HB.out.size (HO3.out b hb))⟩
    rw [HW3.out, link_bs]
set_option maxRecDepth 100000 in
set_option maxHeartbeats 4000000 in
theorem piece_missing_any {T rt rm tb Wk cap n base Bm Bd : Nat} {nd : List Nd} {a : List UInt8} {o : Option Addr} {hops : Int} {mk : Bool} {md : List (List UInt8)} {v : Value} (c : ByteArray) (q : List UInt8) (w : World) (ht : TreeAt w T rt rm tb nd) (hw : w.heap[Wk]? = some (walkM T (bs a) (.slice o n cap) hops mk (undoF Bm Bd)))
    (hn : ¬ IsBlk T rt rm nd Wk) (hnc : n ≤ 1099511627776) (hm : MadeAt w base Bm Bd mk md v) (hW : base ≤ w.heap.size) (h1 : ¬ IsBlk T rt rm nd Bm ∧ Bm ∉ [Wk]) (h2 : ¬ IsBlk T rt rm nd Bd ∧ Bd ∉ [Wk]) (h3 : ∀ k ∈ v.ownBlock.toList, ¬ IsBlk T rt rm nd k ∧ k ∉ [Wk]) (hne : Bm ≠ Bd) (hml : md.length ≤ 1099511627776)
    (hc : c.size ≤ 1099511627776) (hqs : q.length ≤ 1099511627776) (hq : lookE (ents nd) q = none) :
    Calls Tryz.prog 36 #[.pointer (some ⟨Wk, 0, none⟩), .string c, .string (bs q)] w (UndoR mk (decide (n = 0)) T rt rm tb Wk base Bm Bd nd c.data.toList q a (.slice o n cap) hops md v w) := by
  have hget := get_any (bs q) w ht (by rw [bs_size]; omega)
  obtain ⟨c0, _, _, _, _, _, _, _⟩ := walkM_cells hw
  obtain ⟨e, he⟩ : ∃ e : Ent, e = ⟨emp, 0, 0, emp, emp⟩ := ⟨_, rfl⟩
  have hget2 : Calls Tryz.prog 56 #[.pointer (some ⟨T, 0, none⟩), .string (bs q)] w fun r w' => r = .returned (.tuple #[.agg #[.string e.p, .int .i64 e.k, .int .i64 e.m, .string e.d, .string e.l], .bool false]) ∧ Below w.heap.size w w' := by rw [bs_toList, hq] at hget; rw [he]; exact hget
  have Hget := Lib.hid hget2
  have Haf := Lib.hid (fun w1 h1 => after_getM w1 e hw h1)
  have hmiss : ∀ W, Below w.heap.size w W → W.heap[Wk]? = some (walkM T (bs a) (.slice o n cap) hops mk (undoF Bm Bd)) → Calls Tryz.prog 44 #[.pointer (some ⟨Wk, 0, none⟩), .string c, .string (bs q), .pointer (some ⟨Bm, 0, none⟩), .pointer (some ⟨Bd, 0, none⟩)] W fun r w' => ∃ x y, r = .returned (.tuple #[x, y]) ∧ UndoR mk (decide (n = 0)) T rt rm tb Wk base Bm Bd nd c.data.toList q a (.slice o n cap) hops md v w (.returned (.tuple #[x, y])) w' := fun W hb hwW => by
    have hx : TurnX [Wk] T rt rm nd nd w W := TurnX.of_turned (Turned.of_below hb)
    refine (undo1_any c q W (ht.below hb (Nat.le_refl _)) hwW hn hnc (hm.turn hx h1 h2 h3) (Nat.le_trans hW hb.size) h1 h2 h3 hne hml hc hqs).mono fun r w' ⟨g1, nd', v', g2, g3, g4, g5, g6, g7⟩ => ?_
    refine ⟨_, _, g1, rfl, nd', v', g2, g3, TurnX.trans (hx.more (fun i hi => List.mem_cons.2 (.inl (List.mem_singleton.1 hi)))) g4 (fun i hi => .inl hi), g5, g6, fun k hk => ?_⟩
    rcases g7 k hk with x | x
    · exact .inl x
    · exact .inr (Nat.le_trans hb.size x)
  have Hmiss := Lib.hid hmiss
  clear hget hget2 hq hw ht hm he hmiss hn h1 h2 h3
  go_enter Tryz.func36, Tryz.ntmps36
  go_wp2_with (first
    | (go_at_call 56; refine Hget.out.mono ?_; rintro e w1 ⟨rfl, hb1⟩
       obtain ⟨w2, hw2, hz, d0, d1, d2, d3, d4, d5, x1, x4, g1, hb2, hblk⟩ := Haf.out w1 hb1
       have Hz := Lib.hid hz
       have Hw2 := Lib.hid hw2
       have HB2 := Lib.hid hb2
       have HW := Lib.hid hblk
       clear hb1 hw2 hz hb2 hblk)
    | (refine wpList_store_row rfl _ _ _ rfl w1.heap.size #[.string e.p, .int .i64 e.k, .int .i64 e.m, .string e.d, .string e.l] rfl rfl 39 _ Hz.out (by kernel_rfl) rfl (by kernel_rfl) ?_; rw [← Hw2.out])
    | (go_at_call 44; refine (Hmiss.out w2 HB2.out HW.out).mono ?_; rintro r w3 ⟨x, y, rfl, hr⟩
       have HR := Lib.hid hr
       clear hr))
  go_ret2
  exact HR.out
end
section
/-- enough rounds are enough -/
theorem makeF_fuel {mk : Bool} : ∀ (f g : Nat) (L : List Ent) (a : List UInt8) (left : List (List UInt8)) (hops : Nat) (md : List (List UInt8)), Good L → hops ≤ 40 → needF left.length hops ≤ f → needF left.length hops ≤ g → makeF mk f L a left hops md = makeF mk g L a left hops md
  | 0, g, L, a, left, hops, md, hL, h0, h1, h2 => by unfold needF at h1; omega
  | f + 1, 0, L, a, left, hops, md, hL, h0, h1, h2 => by unfold needF at h2; omega
  | f + 1, g + 1, L, a, [], hops, md, hL, h0, h1, h2 => rfl
  | f + 1, g + 1, L, a, c :: left, hops, md, hL, h0, h1, h2 => by
    have n1 : needF left.length hops ≤ f := by unfold needF at h1 ⊢; rw [List.length_cons] at h1; omega
    have n2 : needF left.length hops ≤ g := by unfold needF at h2 ⊢; rw [List.length_cons] at h2; omega
    unfold makeF
    rw [makeF_fuel f g L a left hops _ hL h0 n1 n2, makeF_fuel f g L (parent a) left hops _ hL h0 n1 n2, makeF_fuel f g L (joinP a c) left hops _ hL h0 n1 n2]
    cases hl : lookE L (joinP a c) with
    | none =>
      simp only []
      by_cases h5 : putNo L (dirE (joinP a c)) ≠ 0
      · rw [if_pos h5, if_pos h5]
      · rw [if_neg h5, if_neg h5]
        have hp : putNo L (dirE (joinP a c)) = 0 := by omega
        rw [makeF_fuel f g _ (joinP a c) left hops _ (hL.laid hp) h0 n1 n2]
    | some e =>
      simp only []
      by_cases k1 : e.k = 1
      · rw [if_pos k1, if_pos k1]
      rw [if_neg k1, if_neg k1]
      by_cases k2 : e.k = 2
      · rw [if_pos k2, if_pos k2]
      rw [if_neg k2, if_neg k2]
      by_cases h4 : hops = 40
      · rw [if_pos h4, if_pos h4]
      rw [if_neg h4, if_neg h4]
      have hsh := (link_short hL hl k1 k2).1
      have n3 : needF (pieces e.l.data.toList ++ left).length (hops + 1) ≤ f := by unfold needF at n1 ⊢; rw [List.length_append]; omega
      have n4 : needF (pieces e.l.data.toList ++ left).length (hops + 1) ≤ g := by unfold needF at n2 ⊢; rw [List.length_append]; omega
      rw [makeF_fuel f g L (linkAt a e) _ (hops + 1) _ hL (by omega) n3 n4]
theorem makeF_nil {mk : Bool} {L : List Ent} {a : List UInt8} {hops : Nat} {md : List (List UInt8)} : makeF mk (needF ([] : List (List UInt8)).length hops) L a [] hops md = (L, md, .ok a) := by
  unfold needF
  rfl
theorem makeF_dot {mk : Bool} {L : List Ent} {a : List UInt8} {left : List (List UInt8)} {hops : Nat} {md : List (List UInt8)} : makeF mk (needF ([46] :: left).length hops) L a ([46] :: left) hops md = makeF mk (needF left.length hops) L a left hops md := by
  rw [needF_cons]
  conv => lhs; unfold makeF
  rw [if_pos rfl]
theorem makeF_up {mk : Bool} {L : List Ent} {a : List UInt8} {left : List (List UInt8)} {hops : Nat} {md : List (List UInt8)} : makeF mk (needF ([46, 46] :: left).length hops) L a ([46, 46] :: left) hops md = makeF mk (needF left.length hops) L (parent a) left hops md := by
  rw [needF_cons]
  conv => lhs; unfold makeF
  rw [if_neg (by decide), if_pos rfl]
theorem makeF_there {mk : Bool} {L : List Ent} (hL : Good L) {a c : List UInt8} {left : List (List UInt8)} {hops : Nat} {md : List (List UInt8)} {e : Ent} (h0 : hops ≤ 40) (h1 : c ≠ [46]) (h2 : c ≠ [46, 46]) (hq : lookE L (joinP a c) = some e) :
    makeF mk (needF (c :: left).length hops) L a (c :: left) hops md = match pieceM mk a (joinP a c) left hops e with
      | .error n => (L, md, .error n)
      | .ok none => (L, md, .ok (joinP a c))
      | .ok (some (a', left', hops')) => makeF mk (needF left'.length hops') L a' left' hops' md := by
  rw [needF_cons]
  conv => lhs; unfold makeF
  rw [if_neg h1, if_neg h2, hq]
  unfold pieceM
  simp only []
  by_cases k1 : e.k = 1
  · rw [if_pos k1, if_pos k1]
  rw [if_neg k1, if_neg k1]
  by_cases k2 : e.k = 2
  · rw [if_pos k2, if_pos k2]
    by_cases h3 : mk = true ∨ left ≠ []
    · rw [if_pos h3, if_pos h3]
    · rw [if_neg h3, if_neg h3]
  rw [if_neg k2, if_neg k2]
  by_cases h4 : hops = 40
  · rw [if_pos h4, if_pos h4]
  rw [if_neg h4, if_neg h4]
  simp only []
  have hs := (link_short hL hq k1 k2).1
  exact makeF_fuel _ _ _ _ _ _ _ hL (by omega) (by unfold needF; simp; omega) (Nat.le_refl _)
theorem makeF_miss {mk : Bool} {L : List Ent} {a c : List UInt8} {left : List (List UInt8)} {hops : Nat} {md : List (List UInt8)} (h1 : c ≠ [46]) (h2 : c ≠ [46, 46]) (hq : lookE L (joinP a c) = none) :
    makeF mk (needF (c :: left).length hops) L a (c :: left) hops md =
      if missNo mk (decide (left.length = 0)) L c (joinP a c) ≠ 0 then (L, md, .error (missNo mk (decide (left.length = 0)) L c (joinP a c)))
      else if missDone mk (decide (left.length = 0)) = true then (L, md, .ok (joinP a c))
      else makeF mk (needF left.length hops) (laidL L (dirE (joinP a c))) (joinP a c) left hops (md ++ [joinP a c]) := by
  rw [needF_cons]
  conv => lhs; unfold makeF
  rw [if_neg h1, if_neg h2, hq]
  simp only []
  have hd : (missDone mk (decide (left.length = 0)) = true) ↔ (mk = false ∧ left = []) := by
    unfold missDone
    cases mk <;> simp
  unfold missNo dirNo
  by_cases h3 : mayNo c (joinP a c) ≠ 0
  · rw [if_pos h3]
    by_cases h4 : missDone mk (decide (left.length = 0)) = true
    · simp only [if_pos h4]
      rw [if_pos h3]
    · simp only [if_neg h4, if_pos h3]
  · rw [if_neg h3]
    by_cases h4 : missDone mk (decide (left.length = 0)) = true
    · rw [if_pos (hd.1 h4)]
      simp only [if_pos h4]
      rw [if_neg h3]
    · rw [if_neg (fun x => h4 (hd.2 x))]
      simp only [if_neg h4, if_neg h3]
/-- where a piece goes on -/
theorem pieceM_on {L : List Ent} (hL : Good L) {mk : Bool} {a q a' : List UInt8} {left left' : List (List UInt8)} {hops hops' N : Nat} {e : Ent} (hq : lookE L q = some e) (h0 : hops ≤ 40) (ha : Here L a) (haz : a.length ≤ 255) (hN : 100 ≤ N) (hl : ∀ c ∈ left, c.length ≤ N)
    (h : pieceM mk a q left hops e = .ok (some (a', left', hops'))) : hops' ≤ 40 ∧ a'.length ≤ 255 ∧ (∀ c ∈ left', c.length ≤ N) ∧ needF left'.length hops' ≤ needF left.length hops ∧ Here L a' := by
  unfold pieceM at h
  by_cases k1 : e.k = 1
  · rw [if_pos k1] at h
    injection h with h; injection h with h; injection h with h1 h; injection h with h2 h3
    subst h1; subst h2; subst h3
    exact ⟨h0, path_size hL hq, hl, Nat.le_refl _, .inr ⟨e, hq, k1⟩⟩
  rw [if_neg k1] at h
  by_cases k2 : e.k = 2
  · rw [if_pos k2] at h
    split at h <;> cases h
  rw [if_neg k2] at h
  split at h
  · cases h
  rename_i hn
  injection h with h; injection h with h; injection h with h1 h; injection h with h2 h3
  subst h1; subst h2; subst h3
  refine ⟨by omega, ?_, fun c hc => ?_, ?_, ha.link e⟩
  · unfold linkAt; split
    · simp
    · exact haz
  · rcases List.mem_append.1 hc with hc | hc
    · have h1 := pieces_long hc
      have h2 := link_size hL hq k1 k2
      have : e.l.data.toList.length = e.l.size := rfl
      omega
    · exact hl c hc
  · have := (link_short hL hq k1 k2).1
    unfold needF
    simp
    omega
theorem pieceM_err {mk : Bool} {a q : List UInt8} {left : List (List UInt8)} {hops n : Nat} {e : Ent} (h : pieceM mk a q left hops e = .error n) : n ≠ 0 := by
  unfold pieceM at h
  split at h
  · cases h
  split at h
  · split at h
    · injection h with h; omega
    · cases h
  split at h
  · injection h with h; omega
  · cases h
/-- a place that is there is there behind another one's laying -/
theorem Here.laid {L : List Ent} (hL : Good L) {a : List UInt8} {e : Ent} (hn : lookE L e.path = none) (h : Here L a) : Here (laidL L e) a := by
  rcases h with h | ⟨x, hx, hk⟩
  · exact .inl h
  · refine .inr ⟨x, ?_, hk⟩
    rw [lookE_laid hL.inc, if_neg (fun e2 => by rw [e2, hn] at hx; cases hx)]
    exact hx
theorem Here.made {L : List Ent} (hL : Good L) {q : List UInt8} : Here (laidL L (dirE q)) q := by
  refine .inr ⟨dirE q, ?_, rfl⟩
  rw [lookE_laid hL.inc, dirE_path, if_pos rfl]
end
end Go.Proofs.YtdkodedocklmdaaGreat
