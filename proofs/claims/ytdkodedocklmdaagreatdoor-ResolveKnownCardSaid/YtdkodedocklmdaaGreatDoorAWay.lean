/- ApartTexts (ASame, Split, APartA, APartB, ApartT). -/
import Derived.Test.YtdkodedocklmdaaGreatDoorRGoes
import Derived.Test.YtdkodedocklmdaaGreatDoorSWay
import Derived.Deep.DeepCutAuto
import Derived.Deep.CutBlock
set_option linter.unusedSimpArgs false
set_option linter.unusedVariables false
namespace Go.Proofs.YtdkodedocklmdaaGreatDoor
section
open Go.RowKit Go.Maps Go.Shelf
open Go.Lib hiding intOf size_eq
set_option maxRecDepth 100000 in
set_option maxHeartbeats 1000000 in
theorem sameT_any (va vb : Value) (L : List (List UInt8)) (w : World) (ba bb : Nat) (ha : Texts w ba va L) (hb : Texts w bb vb L) (hl : L.length ≤ 1099511627776) :
    Calls Tryz.prog 39 #[va, vb] w fun r w' => Below w.heap.size w w' ∧ r = .returned (.bool true) := by
  obtain ⟨o1, cap1, rfl, h1, _⟩ := left_of_texts ha
  obtain ⟨o2, cap2, rfl, h2, _⟩ := left_of_texts hb
  obtain ⟨n, hn⟩ : ∃ n, n = L.length := ⟨_, rfl⟩
  have hle1 := h1.le
  have hle2 := h2.le
  have hmx1 := h1.max
  have hmx2 := h2.max
  rw [← hn] at hle1 hle2 hl ⊢
  have H1 := Lib.hid h1
  have H2 := Lib.hid h2
  have Hn := Lib.hid hn
  clear h1 h2 hn ha hb
  go_enter Tryz.func39, Tryz.ntmps39
  go_wp2
  go_loopw [5] (fun iv wr => ∃ (k : Nat), iv = .int .i64 (k : Int) ∧ k ≤ n ∧ Below w.heap.size w wr) (fun iv _ => n - (intOf iv).toNat)
  case atStart => exact ⟨0, rfl, Nat.zero_le _, Below.refl _ _⟩
  case round =>
    obtain ⟨k, rfl, hk, hbr⟩ := hrel
    have Hbr := Lib.hid hbr
    by_cases hlt : k < n
    · obtain ⟨x, hx⟩ : ∃ x, L[k]? = some x := ⟨_, List.getElem?_eq_getElem (by rw [← Hn.out]; exact hlt)⟩
      obtain ⟨a1, rfl, hc1⟩ := (H1.out.below hbr (Nat.le_refl _)).cell k x hx
      obtain ⟨a2, rfl, hc2⟩ := (H2.out.below hbr (Nat.le_refl _)).cell k x hx
      have b1 : ((bs x).toList == (bs x).toList) = true := by simp
      have Hc1 := Lib.hid hc1
      have Hc2 := Lib.hid hc2
      clear hc1 hc2 hbr hx
      go_wp2_with fail
      refine region_still_named (by kernel_rfl) (by kernel_rfl) ?_
      intro wz hz
      have hc1' : wz.cell? (a1.add k) = some (.string (bs x)) := by rw [hz]; exact Hc1.out
      have hc2' : wz.cell? (a2.add k) = some (.string (bs x)) := by rw [hz]; exact Hc2.out
      have Hbz := Lib.hid (show Below w.heap.size w wz by rw [hz]; exact below_drew1 Hbr.out)
      clear hz
      repeat still_step
      refine wpStill_nil ?_
      go_wp2
      go_roundw
      case rel => exact ⟨k + 1, by go_num, by omega, Hbz.out⟩
      case measure => simp [intOf]; omega
    · obtain rfl : k = n := by omega
      clear hbr
      go_wp2
      go_ret
      exact ⟨Hbr.out, rfl⟩
/-- the mark of a place -/
def markL (k i : Nat) : List UInt8 := [35, UInt8.ofNat (k % 256), UInt8.ofNat (k / 256 % 256), UInt8.ofNat (i % 256), UInt8.ofNat (i / 256 % 256)]
theorem conv_mark (k i : Nat) (w : World) : (convert 166 9 (.slice (some ⟨w.heap.size, 0, none⟩) 5 5)).run Tryz.prog (w.alloc (.cells #[.int .u8 35, .int .u8 ((k : Int) % 256), .int .u8 ((k : Int) / 256 % 256), .int .u8 ((i : Int) % 256), .int .u8 ((i : Int) / 256 % 256)] 5)) =
    .ok (.string (bs (markL k i))) (w.alloc (.cells #[.int .u8 35, .int .u8 ((k : Int) % 256), .int .u8 ((k : Int) / 256 % 256), .int .u8 ((i : Int) % 256), .int .u8 ((i : Int) / 256 % 256)] 5)) := by
  have e : ((markL k i).map (fun b => Value.int .u8 (b.toNat : Int))).toArray = #[.int .u8 35, .int .u8 ((k : Int) % 256), .int .u8 ((k : Int) / 256 % 256), .int .u8 ((i : Int) % 256), .int .u8 ((i : Int) / 256 % 256)] := by
    simp [markL]
  rw [← e]
  exact run_convert_bytes_back _ _ _ 5 ⟨w.heap.size, 0, none⟩ 5 (markL k i) Tryz.underlying166 Tryz.underlying5 Tryz.underlying9 (fun j hj => by
    have e2 : (⟨w.heap.size, 0, none⟩ : Addr).add j = ⟨w.heap.size, j, none⟩ := by unfold Addr.add; split <;> simp_all
    rw [e2]
    unfold World.cell?
    rw [World.alloc_heap_new]
    simp [List.getElem?_map, List.getElem?_eq_getElem hj])
set_option maxRecDepth 100000 in
set_option maxHeartbeats 1000000 in
theorem markText_any (k i : Nat) (w : World) (hk : k ≤ 1099511627776) (hi : i ≤ 1099511627776) :
    Calls Tryz.prog 108 #[.int .i64 k, .int .i64 i] w fun r w' => Below w.heap.size w w' ∧ r = .returned (.string (bs (markL k i))) := by
  have hcv := conv_mark k i w
  go_enter Tryz.func108, Tryz.ntmps108
  go_wp2
  go_ret
  exact ⟨(Below.refl _ _).alloc (Nat.le_refl _) _, rfl⟩
set_option maxRecDepth 100000 in
theorem markTexts_any (k i : Nat) (w : World) (hk : k ≤ 1099511627776) (hi : i ≤ 1099511627776) :
    Calls Tryz.prog 81 #[.int .i64 k, .int .i64 i] w fun r w' => Below w.heap.size w w' ∧ r = .returned (.string (bs (markL k i))) := by
  have H := Lib.hid (markText_any k i w hk hi)
  go_enter Tryz.func81, Tryz.ntmps81
  go_wp2_with (go_at_call 108; refine H.out.mono ?_; rintro r w1 ⟨hb, rfl⟩; have HB := Lib.hid hb; clear hb)
  go_ret
  exact ⟨HB.out, rfl⟩
/-- marks of two lists differ -/
theorem mark_apart {k j a b : Nat} (hk : k < 256) (hj : j < 256) (h : bs (markL k a) = bs (markL j b)) : k = j := by
  have h1 : markL k a = markL j b := congrArg (fun x : ByteArray => x.data.toList) h
  unfold markL at h1
  injection h1 with _ h1
  injection h1 with h1 _
  have := congrArg UInt8.toNat h1
  simp at this
  omega
end
section
open Go.RowKit
theorem run_append_split {P : Program} (w : World) (base : Nat) (t ty e : TypeId) (i : TypeInfo) (z : Value) (size bytes : Nat) (ht : P.underlying t = some (.slice e)) (hi : P.info? e = some i) (hz : i.zero = some z)
    (hsize : i.size = size) (hby : i.bytes = bytes) (hzs : z.cells.size = size) (hsz : 0 < size)
    (v : Value) (n : Nat) (xs : List Value) (hown : w.ownsRow base e size v n xs)
    (a : Addr) (m c : Nat) (news : List Value) (hl : news.length = m * size) (hnews : ∀ j u, news[j]? = some u → w.cell? (a.add j) = some u) (h1 : ∀ u ∈ news, u.oneCell' = true)
    (h63 : n + m ≤ maxLen) (hbytes : (n + m) * bytes ≤ 140737488355328) (hbase : base ≤ w.heap.size) :
    ∃ v' w', (Builtin.append_ #[t, t] ty #[v, .slice (some a) m c]).run P w = .ok v' w' ∧ w'.ownsRow base e size v' (n + m) (xs ++ news) ∧ (v' = .slice none 0 0 ↔ v = .slice none 0 0 ∧ m = 0) ∧
      ((v'.ownBlock = v.ownBlock ∧ w.grownBy w' v.ownBlock) ∨ (v'.ownBlock = some w.heap.size ∧ w.grownBy w' none)) := by
  obtain ⟨v', w', hr, h2, h3, h4, h5⟩ := run_append_own_at (P := P) w base t ty e i z size bytes ht hi hz hsize hby hzs hsz v n xs hown a m c news hl hnews h1 h63 hbytes hbase
  refine ⟨v', w', hr, h2, h4, ?_⟩
  rcases h5 with h5 | h5
  · exact .inl ⟨h5, h3⟩
  · refine .inr ⟨h5, ?_⟩
    rcases hown.2 with ⟨rfl, _⟩ | ⟨g, cap, cur, rfl, hb, hg, hnc, hcm, hcs, htk⟩
    · exact h3
    · subst hsize
      subst hby
      by_cases hroom : n + m ≤ cap
      · have hk := run_append_room (P := P) w t ty e i ht hi g n cap cur hg a m c news hl hnews h1 hroom (by rw [hl, hcs, ← Nat.add_mul]; exact Nat.mul_le_mul_right _ hroom)
        rw [hk] at hr
        injection hr with e1 e2
        rw [← e1] at h5
        have hlt := (Array.getElem?_eq_some_iff.1 hg).1
        simp [Value.ownBlock] at h5
        omega
      · have hk := run_append_grow (P := P) w t ty e i z ht hi hz ⟨g, 0, none⟩ n cap xs hown.1 (hown.cells (g := g) rfl) a m c news hl hnews (by omega) (by simp only [maxLen] at h63; omega) (growslice_fits (by omega) hbytes)
        rw [hk] at hr
        injection hr with e1 e2
        rw [← e2]
        exact ⟨rfl, rfl, rfl, by simp, fun k hk _ => (Array.getElem?_push_lt hk).trans (Array.getElem?_eq_getElem hk).symm⟩
theorem wpList_append_split {P : Program} {w : World} {ops : Array Oper} {rest : List Oper} {o : Oper} {a : Act} {Q : Exit → Act → World → Prop} (hgd : o.guard = none) (s x : Operand) (t : TypeId)
    (ho : o.op = .call { callee := .builtin .append, args := #[s, x], argTypes := #[t, t] })
    (base : Nat) (e : TypeId) (i : TypeInfo) (z : Value) (size bytes : Nat) (ht : P.underlying t = some (.slice e)) (hi : P.info? e = some i) (hz : i.zero = some z)
    (hsize : i.size = size) (hby : i.bytes = bytes) (hzs : z.cells.size = size) (hsz : 0 < size)
    (v : Value) (n : Nat) (xs : List Value) (hs : a.eval s = v) (hown : w.ownsRow base e size v n xs)
    (ad : Addr) (m c : Nat) (news : List Value) (hx : a.eval x = .slice (some ad) m c) (hl : news.length = m * size) (hnews : ∀ j u, news[j]? = some u → w.cell? (ad.add j) = some u) (h1 : ∀ u ∈ news, u.oneCell' = true)
    (h63 : n + m ≤ maxLen) (hbytes : (n + m) * bytes ≤ 140737488355328) (hbase : base ≤ w.heap.size)
    (h : ∀ v' w', w'.ownsRow base e size v' (n + m) (xs ++ news) → (v' = .slice none 0 0 ↔ v = .slice none 0 0 ∧ m = 0) →
      ((v'.ownBlock = v.ownBlock ∧ w.grownBy w' v.ownBlock) ∨ (v'.ownBlock = some w.heap.size ∧ w.grownBy w' none)) → wpList P ops Q rest (a.put o.dst v') w') : wpList P ops Q (o :: rest) a w := by
  refine wpList_plain hgd fun K hK => ?_
  obtain ⟨v', w', hr, h2, h3, h4⟩ := run_append_split (P := P) w base t o.type e i z size bytes ht hi hz hsize hby hzs hsz v n xs hown ad m c news hl hnews h1 h63 hbytes hbase
  unfold Oper.wp execOp
  simp only [ho, resolve, invoke, builtin, Sem.run_bind, Sem.run_pure, Result.andThen_ok, List.map_toArray, List.map_cons, List.map_nil, hs, hx, hr]
  exact hK _ _ (h v' w' h2 h3 h4)
end
section
open Go.RowKit Go.Maps Go.Shelf
open Go.Lib hiding intOf size_eq
def markV (k i : Nat) : Value := .string (bs (markL k i))
def marksV (k n : Nat) : List Value := (List.range n).map (markV k)
theorem marksV_get {k n i : Nat} (h : i < n) : (marksV k n)[i]? = some (markV k i) := by
  unfold marksV
  rw [List.getElem?_map, List.getElem?_range h]
  rfl
theorem marksV_succ (k n : Nat) : marksV k (n + 1) = marksV k n ++ [markV k n] := by
  unfold marksV
  rw [List.range_succ, List.map_append]
  rfl
theorem marksV_len (k n : Nat) : (marksV k n).length = n := by simp [marksV]
theorem marksV_of {k n : Nat} {xs : List Value} (hl : xs.length = n) (h : ∀ i, i < n → xs[i]? = some (markV k i)) : xs = marksV k n := by
  apply List.ext_getElem?
  intro i
  by_cases hi : i < n
  · rw [h i hi, marksV_get hi]
  · rw [List.getElem?_eq_none (by omega), List.getElem?_eq_none (by rw [marksV_len]; omega)]
/-- a row of the call's own -/
def RowX (W : World) (base : Nat) (v : Value) (n : Nat) (xs : List Value) : Prop := W.ownsRow base 9 1 v n xs ∧ (n = 0 → v = .slice none 0 0)
/-- a row that is read -/
def RowL (W : World) (v : Value) (n : Nat) (xs : List Value) : Prop := ∃ o cap, v = .slice o n cap ∧ n ≤ cap ∧ cap ≤ maxLen ∧ (n = 0 → o = none) ∧ ∀ i x, i < n → xs[i]? = some x → ∃ g cur, o = some ⟨g, 0, none⟩ ∧ W.heap[g]? = some (.cells cur 9 (0, 0)) ∧ cur[i]? = some x
theorem RowX.look {W : World} {base : Nat} {v : Value} {n : Nat} {xs : List Value} (h : RowX W base v n xs) : RowL W v n xs := by
  obtain ⟨⟨h1, h2⟩, h3⟩ := h
  by_cases hn : n = 0
  · obtain rfl := h3 hn
    subst hn
    exact ⟨none, 0, rfl, Nat.le_refl _, by simp, fun _ => rfl, fun i x hi => by omega⟩
  · rcases h2 with ⟨_, h0⟩ | ⟨g, cap, cur, rfl, hb, hg, hnc, hcm, hcs, htk⟩
    · exact absurd h0 hn
    · refine ⟨_, cap, rfl, hnc, hcm, fun e => absurd e hn, fun i x hi hx => ⟨g, cur, rfl, hg, ?_⟩⟩
      rw [← htk, List.getElem?_take, if_pos (by omega)] at hx
      simpa using hx
theorem RowL.keep {W W' : World} {v : Value} {n : Nat} {xs : List Value} (h : RowL W v n xs) (hs : W.heap.size ≤ W'.heap.size) (hk : ∀ b, v.ownBlock = some b → b < W.heap.size → W'.heap[b]? = W.heap[b]?) : RowL W' v n xs := by
  obtain ⟨o, cap, rfl, h1, h2, h3, h4⟩ := h
  refine ⟨o, cap, rfl, h1, h2, h3, fun i x hi hx => ?_⟩
  obtain ⟨g, cur, rfl, hg, hc⟩ := h4 i x hi hx
  exact ⟨g, cur, rfl, (hk g rfl (Array.getElem?_eq_some_iff.1 hg).1).trans hg, hc⟩
theorem RowX.keep {W W' : World} {base : Nat} {v : Value} {n : Nat} {xs : List Value} (h : RowX W base v n xs) (hk : ∀ b, v.ownBlock = some b → b < W.heap.size → W'.heap[b]? = W.heap[b]?) : RowX W' base v n xs := by
  obtain ⟨⟨h1, h2⟩, h3⟩ := h
  refine ⟨⟨h1, ?_⟩, h3⟩
  rcases h2 with h2 | ⟨g, cap, cur, rfl, hb, hg, hnc, hcm, hcs, htk⟩
  · exact .inl h2
  · exact .inr ⟨g, cap, cur, rfl, hb, (hk g rfl (Array.getElem?_eq_some_iff.1 hg).1).trans hg, hnc, hcm, hcs, htk⟩
/-- rows with marks of different lists lie apart -/
theorem RowL.apart {W : World} {v v' : Value} {k k' n n' : Nat} (hk : k < 256) (hk' : k' < 256) (hne : k ≠ k') (h : RowL W v n (marksV k n)) (h' : RowL W v' n' (marksV k' n')) : ∀ b, v.ownBlock = some b → v'.ownBlock ≠ some b := by
  obtain ⟨o, cap, rfl, _, _, h3, h4⟩ := h
  obtain ⟨o', cap', rfl, _, _, h3', h4'⟩ := h'
  intro b hb hb'
  by_cases hn : n = 0
  · rw [h3 hn] at hb; simp [Value.ownBlock] at hb
  by_cases hn' : n' = 0
  · rw [h3' hn'] at hb'; simp [Value.ownBlock] at hb'
  obtain ⟨g, cur, rfl, hg, hc⟩ := h4 0 _ (by omega) (marksV_get (by omega))
  obtain ⟨g', cur', rfl, hg', hc'⟩ := h4' 0 _ (by omega) (marksV_get (by omega))
  simp [Value.ownBlock] at hb hb'
  subst hb
  subst hb'
  rw [hg] at hg'
  injection hg' with hg'
  injection hg' with hg' _ _
  subst hg'
  rw [hc] at hc'
  injection hc' with hc'
  injection hc' with hc'
  exact hne (mark_apart hk hk' hc')
/-- a cell of a row is set -/
theorem RowX.set {W : World} {base : Nat} {n g cap i : Nat} {xs : List Value} (h : RowX W base (.slice (some ⟨g, 0, none⟩) n cap) n xs) (hi : i < n) (u : Value) :
    RowX (W.setCell ⟨g, i, none⟩ u) base (.slice (some ⟨g, 0, none⟩) n cap) n (xs.set i u) ∧ W.frozen? ⟨g, i, none⟩ = false ∧ (∃ x, W.cell? ⟨g, i, none⟩ = some x) := by
  obtain ⟨⟨h1, h2⟩, h3⟩ := h
  rcases h2 with ⟨e, _⟩ | ⟨g2, cap2, cur, e, hb, hg, hnc, hcm, hcs, htk⟩
  · cases e
  · injection e with e1 e2 e3
    injection e1 with e1
    injection e1 with e1
    subst e1
    subst e3
    have hset := heap_setCell_same W g i cur 9 u hg
    refine ⟨⟨⟨by simpa using h1, .inr ⟨g, cap, _, rfl, hb, hset, hnc, hcm, by simpa using hcs, ?_⟩⟩, fun e => absurd e (by omega)⟩, frozen_of_row hg, ?_⟩
    · rw [← htk]
      apply List.ext_getElem?
      intro j
      simp only [List.getElem?_take, List.getElem?_set, Array.getElem?_toList, Array.getElem?_setIfInBounds]
      by_cases hj : j < n * 1
      · rw [if_pos hj]
        by_cases hji : i = j
        · subst hji
          rw [if_pos rfl, if_pos rfl, if_pos (by omega), if_pos (by simp; omega)]
        · rw [if_neg hji, if_neg hji, if_pos hj]
      · rw [if_neg hj]
        by_cases hji : i = j
        · omega
        · rw [if_neg hji, if_neg hj]
    · refine ⟨cur[i]'(by omega), cell_of_row hg (Array.getElem?_eq_getElem _)⟩
theorem RowX.block {W : World} {base : Nat} {v : Value} {n b : Nat} {xs : List Value} (h : RowX W base v n xs) (hb : v.ownBlock = some b) : base ≤ b ∧ ∃ cur, W.heap[b]? = some (.cells cur 9 (0, 0)) := by
  obtain ⟨⟨h1, h2⟩, h3⟩ := h
  rcases h2 with ⟨rfl, _⟩ | ⟨g, cap, cur, rfl, hbg, hg, _⟩
  · simp [Value.ownBlock] at hb
  · obtain rfl : g = b := by simpa [Value.ownBlock] using hb
    exact ⟨hbg, cur, hg⟩
theorem RowL.cell {W : World} {v : Value} {n i : Nat} {xs : List Value} {x : Value} (h : RowL W v n xs) (hi : i < n) (hx : xs[i]? = some x) : ∃ g cap, v = .slice (some ⟨g, 0, none⟩) n cap ∧ W.cell? ⟨g, i, none⟩ = some x := by
  obtain ⟨o, cap, rfl, _, _, _, h4⟩ := h
  obtain ⟨g, cur, rfl, hg, hc⟩ := h4 i x hi hx
  exact ⟨g, cap, rfl, cell_of_row hg hc⟩
theorem RowL.block {W : World} {v : Value} {n b : Nat} {xs : List Value} (h : RowL W v n xs) (hl : xs.length = n) (hb : v.ownBlock = some b) : ∃ cur, W.heap[b]? = some (.cells cur 9 (0, 0)) := by
  obtain ⟨o, cap, rfl, _, _, h3, h4⟩ := h
  by_cases hn : n = 0
  · rw [h3 hn] at hb; simp [Value.ownBlock] at hb
  obtain ⟨g, cur, rfl, hg, hc⟩ := h4 0 _ (by omega) (List.getElem?_eq_getElem (by omega))
  obtain rfl : g = b := by simpa [Value.ownBlock] using hb
  exact ⟨cur, hg⟩
/-- what stands all the while -/
structure ApS (w wr : World) (B base : Nat) (rs : List (Value × Nat)) : Prop where
  bel : Below base w wr
  bb : wr.heap[B]? = some (.cells (rs.map (·.1)).toArray 70 (0, 0))
theorem ApS.grown {w wr W : World} {B base : Nat} {rs : List (Value × Nat)} {row : Option Nat} (h : ApS w wr B base rs) (hg : wr.grownBy W row) (hbase : base ≤ w.heap.size) (hr : ∀ b, row = some b → base ≤ b ∧ b ≠ B) : ApS w W B base rs :=
  ⟨h.bel.grown hg (Nat.le_trans hbase h.bel.size) (fun b hb => (hr b hb).1), (hg.block B (heap_lt h.bb) (fun e => (hr B e.symm).2 rfl)).trans h.bb⟩
theorem grown_none {w W : World} (h : Below w.heap.size w W) : w.grownBy W none := ⟨h.os, h.tape, h.output, h.size, fun k hk _ => h.block k hk⟩
theorem grown_alloc {w : World} (o : Obj) : w.grownBy (w.alloc o) none := grown_none ((Below.refl _ _).alloc (Nat.le_refl _) o)
theorem grown_set {w : World} (p : Addr) (u : Value) : w.grownBy (w.setCell p u) (some p.block) :=
  ⟨rfl, rfl, rfl, by simp, fun k hk hn => heap_setCell_other w p k u (fun e => hn (by rw [e]))⟩
theorem grown_trans {w w1 w2 : World} {row : Option Nat} (h : w.grownBy w1 none) (h2 : w1.grownBy w2 row) : w.grownBy w2 row :=
  ⟨h2.os.trans h.os, h2.tape.trans h.tape, h2.output.trans h.output, Nat.le_trans h.size h2.size, fun k hk hn => (h2.block k (Nat.lt_of_lt_of_le hk h.size) hn).trans (h.block k hk (by simp))⟩
theorem RowX.grown {W W' : World} {base : Nat} {v : Value} {n : Nat} {xs : List Value} {row : Option Nat} (h : RowX W base v n xs) (hg : W.grownBy W' row) (hr : ∀ b, v.ownBlock = some b → row ≠ some b) : RowX W' base v n xs :=
  h.keep (fun b hb hlt => hg.block b hlt (fun e => hr b hb e.symm))
theorem RowL.grown {W W' : World} {v : Value} {n : Nat} {xs : List Value} {row : Option Nat} (h : RowL W v n xs) (hg : W.grownBy W' row) (hr : ∀ b, v.ownBlock = some b → row ≠ some b) : RowL W' v n xs :=
  h.keep hg.size (fun b hb hlt => hg.block b hlt (fun e => hr b hb e.symm))
/-- the first loops -/
def P1 (w wr : World) (B base : Nat) (rs : List (Value × Nat)) (k i : Nat) : Prop := ApS w wr B base rs ∧
  ∀ j v n, rs[j]? = some (v, n) → ∃ xs, RowX wr base v n xs ∧ (j < k → xs = marksV j n) ∧ (j = k → ∀ a, a < i → xs[a]? = some (markV k a))
theorem P1.quiet {w wr W : World} {B base : Nat} {rs : List (Value × Nat)} {k i : Nat} (h : P1 w wr B base rs k i) (hbase : base ≤ w.heap.size) (hg : wr.grownBy W none) : P1 w W B base rs k i :=
  ⟨h.1.grown hg hbase (fun b hb => by cases hb), fun j v n hj => by
    obtain ⟨xs, h1, h2, h3⟩ := h.2 j v n hj
    exact ⟨xs, h1.grown hg (fun b _ e => by cases e), h2, h3⟩⟩
def ApD (rs : List (Value × Nat)) : Prop := ∀ (j k : Nat) (v : Value) (n : Nat) (v' : Value) (n' : Nat), j ≠ k → rs[j]? = some (v, n) → rs[k]? = some (v', n') → ∀ b, v.ownBlock = some b → v'.ownBlock ≠ some b
theorem P1.set {w wr : World} {B base : Nat} {rs : List (Value × Nat)} {k i n g cap : Nat} (h : P1 w wr B base rs k i) (hbase : base ≤ w.heap.size) (hd : ApD rs) (hk : rs[k]? = some (.slice (some ⟨g, 0, none⟩) n cap, n)) (hi : i < n) :
    P1 w (wr.setCell ⟨g, i, none⟩ (markV k i)) B base rs k (i + 1) ∧ wr.frozen? ⟨g, i, none⟩ = false ∧ ∃ x, wr.cell? ⟨g, i, none⟩ = some x := by
  obtain ⟨xs, h1, h2, h3⟩ := h.2 k _ n hk
  obtain ⟨q1, q2, q3⟩ := h1.set hi (markV k i)
  obtain ⟨hb1, cur, hb2⟩ := h1.block (b := g) rfl
  refine ⟨⟨h.1.grown (grown_set _ _) hbase (fun b hb => ?_), fun j v' n' hj => ?_⟩, q2, q3⟩
  · obtain rfl : g = b := by simpa using hb
    refine ⟨hb1, fun e => ?_⟩
    subst e
    have := h.1.bb
    rw [hb2] at this
    injection this with this
    injection this with _ this _
    exact absurd this (by decide)
  · by_cases hjk : j = k
    · subst hjk
      rw [hk] at hj
      injection hj with hj
      injection hj with hj1 hj2
      subst hj1
      subst hj2
      refine ⟨_, q1, fun e => by omega, fun _ a ha => ?_⟩
      have hlen : xs.length = n := by simpa using h1.1.1
      rw [List.getElem?_set]
      by_cases hai : i = a
      · subst hai
        rw [if_pos rfl, if_pos (by omega)]
      · rw [if_neg hai]
        exact h3 rfl a (by omega)
    · obtain ⟨xs', r1, r2, r3⟩ := h.2 j v' n' hj
      exact ⟨xs', r1.grown (grown_set _ _) (fun b hb e => hd j k _ _ _ _ hjk hj hk b hb (by simpa [Value.ownBlock] using e)), r2, fun e => absurd e hjk⟩
theorem P1.next {w wr : World} {B base : Nat} {rs : List (Value × Nat)} {k n : Nat} {v : Value} (h : P1 w wr B base rs k n) (hk : rs[k]? = some (v, n)) : P1 w wr B base rs (k + 1) 0 :=
  ⟨h.1, fun j v' n' hj => by
    obtain ⟨xs, h1, h2, h3⟩ := h.2 j v' n' hj
    refine ⟨xs, h1, fun hlt => ?_, fun _ a ha => by omega⟩
    by_cases hjk : j = k
    · subst hjk
      rw [hk] at hj
      injection hj with hj
      injection hj with hj1 hj2
      subst hj2
      exact marksV_of (by simpa using h1.1.1) (h3 rfl)
    · exact h2 (by omega)⟩
end
section
open Go.RowKit Go.Maps Go.Shelf
open Go.Lib hiding intOf size_eq
theorem RowX.val {W : World} {base : Nat} {v : Value} {n : Nat} {xs : List Value} (h : RowX W base v n xs) : ∃ o cap, v = .slice o n cap ∧ n ≤ cap ∧ cap ≤ maxLen ∧ (n ≠ 0 → ∃ g, o = some ⟨g, 0, none⟩) := by
  by_cases hn : n = 0
  · exact ⟨none, 0, by rw [h.2 hn, hn], by omega, by simp, fun x => absurd hn x⟩
  · obtain ⟨⟨h1, h2⟩, h3⟩ := h
    rcases h2 with ⟨_, h0⟩ | ⟨g, cap, cur, rfl, hb, hg, hnc, hcm, hcs, htk⟩
    · exact absurd h0 hn
    · exact ⟨_, cap, rfl, hnc, hcm, fun _ => ⟨g, rfl⟩⟩
theorem ApS.cell {w wr : World} {B base : Nat} {rs : List (Value × Nat)} (h : ApS w wr B base rs) {k : Nat} {v : Value} {n : Nat} (hk : rs[k]? = some (v, n)) : wr.cell? ⟨B, k, none⟩ = some v := by
  unfold World.cell?
  rw [h.bb]
  simp [hk]
theorem grown_row {W W' : World} {base n size : Nat} {e : TypeId} {v : Value} {xs : List Value} {row : Option Nat} (h : W.ownsRow base e size v n xs) (hg : W.grownBy W' row) (hr : ∀ b, v.ownBlock = some b → row ≠ some b) : W'.ownsRow base e size v n xs := by
  obtain ⟨h1, h2⟩ := h
  refine ⟨h1, ?_⟩
  rcases h2 with h2 | ⟨g, cap, cur, rfl, hb, hgg, d⟩
  · exact .inl h2
  · exact .inr ⟨g, cap, cur, rfl, hb, (hg.block g (Array.getElem?_eq_some_iff.1 hgg).1 (fun e => hr g rfl e.symm)).trans hgg, d⟩
theorem row_type {W : World} {base n size : Nat} {e : TypeId} {v : Value} {xs : List Value} (h : W.ownsRow base e size v n xs) {b : Nat} (hb : v.ownBlock = some b) : base ≤ b ∧ ∃ cur, W.heap[b]? = some (.cells cur e (0, 0)) := by
  obtain ⟨h1, h2⟩ := h
  rcases h2 with ⟨rfl, _⟩ | ⟨g, cap, cur, rfl, hbg, hg, _⟩
  · simp [Value.ownBlock] at hb
  · obtain rfl : g = b := by simpa [Value.ownBlock] using hb
    exact ⟨hbg, cur, hg⟩
/-- the lists that were grown already, and those that weren't yet (of the list k nothing is said) -/
structure P2 (w wr : World) (B base : Nat) (rs gs : List (Value × Nat)) (gv : Value) (k : Nat) (at_ : Bool) : Prop where
  st : ApS w wr B base rs
  gl : gs.length = k
  gr : wr.ownsRow base 70 1 gv k (gs.map (·.1))
  gb : gv.ownBlock ≠ some B
  old : ∀ j v n, j < k → rs[j]? = some (v, n) → RowL wr v n (marksV j n) ∧ ∃ v', gs[j]? = some (v', n + 64) ∧ RowX wr base v' (n + 64) (marksV j (n + 64))
  new : ∀ j v n, k ≤ j → (at_ = true → j ≠ k) → rs[j]? = some (v, n) → RowX wr base v n (marksV j n)
theorem P2.grown {w wr W : World} {B base : Nat} {rs gs : List (Value × Nat)} {gv : Value} {k : Nat} {a : Bool} {row : Option Nat} (h : P2 w wr B base rs gs gv k a) (hbase : base ≤ w.heap.size) (hg : wr.grownBy W row) (hN : rs.length ≤ 200) {n' : Nat} {v : Value} {kk : Nat} (hkk : a = true → kk = k)
    (hr : row = none ∨ (a = true ∧ k < rs.length ∧ row = v.ownBlock ∧ RowX wr base v n' (marksV k n'))) : P2 w W B base rs gs gv k a := by
  rcases hr with rfl | ⟨ha, hkl, rfl, hv⟩
  · exact ⟨h.st.grown hg hbase (fun b e => by cases e), h.gl, grown_row h.gr hg (fun b _ e => by cases e), h.gb, fun j v n hj hjk => by
      obtain ⟨h1, v', h2, h3⟩ := h.old j v n hj hjk
      exact ⟨h1.grown hg (fun b _ e => by cases e), v', h2, h3.grown hg (fun b _ e => by cases e)⟩, fun j v n hj hne hjk => (h.new j v n hj hne hjk).grown hg (fun b _ e => by cases e)⟩
  · have hblk := fun b (hb : v.ownBlock = some b) => hv.block hb
    have ap : ∀ (j : Nat) (v2 : Value) (n2 : Nat), j < rs.length → j ≠ k → RowL wr v2 n2 (marksV j n2) → ∀ b, v2.ownBlock = some b → v.ownBlock ≠ some b := fun j v2 n2 hj hne h2 b hb => RowL.apart (by omega) (by omega) hne h2 hv.look b hb
    refine ⟨h.st.grown hg hbase (fun b hb => ?_), h.gl, grown_row h.gr hg (fun b hb e => ?_), h.gb, fun j v2 n2 hj hjk => ?_, fun j v2 n2 hj hne hjk => ?_⟩
    · obtain ⟨h1, cur, h2⟩ := hblk b hb
      refine ⟨h1, fun e => ?_⟩
      subst e
      have := h.st.bb
      rw [h2] at this
      injection this with this
      injection this with _ this _
      exact absurd this (by decide)
    · obtain ⟨_, cur, h2⟩ := hblk b e
      obtain ⟨_, cur', h3⟩ := row_type h.gr hb
      rw [h2] at h3
      injection h3 with h3
      injection h3 with _ h3 _
      exact absurd h3 (by decide)
    · obtain ⟨h1, v', h2, h3⟩ := h.old j v2 n2 hj hjk
      have hjl : j < rs.length := (List.getElem?_eq_some_iff.1 hjk).1
      exact ⟨h1.grown hg (ap j v2 n2 hjl (by omega) h1), v', h2, h3.grown hg (ap j v' _ hjl (by omega) h3.look)⟩
    · have h1 := h.new j v2 n2 hj hne hjk
      have hjl : j < rs.length := (List.getElem?_eq_some_iff.1 hjk).1
      exact h1.grown hg (ap j v2 n2 hjl (hne ha) h1.look)
/-- the list k under way: n + i there, the old one is as it was -/
structure P3 (w wr : World) (B base : Nat) (rs gs : List (Value × Nat)) (gv : Value) (k : Nat) (v : Value) (n : Nat) (v' : Value) (i : Nat) : Prop where
  rest : P2 w wr B base rs gs gv k true
  it : rs[k]? = some (v, n)
  row : RowX wr base v' (n + i) (marksV k (n + i))
  was : RowL wr v n (marksV k n)
theorem P2.start {w wr : World} {B base : Nat} {rs gs : List (Value × Nat)} {gv : Value} {k : Nat} {v : Value} {n : Nat} (h : P2 w wr B base rs gs gv k false) (hk : rs[k]? = some (v, n)) : P3 w wr B base rs gs gv k v n v 0 := by
  have h1 := h.new k v n (Nat.le_refl _) (fun e => by cases e) hk
  exact ⟨⟨h.st, h.gl, h.gr, h.gb, h.old, fun j v n hj hne hjk => h.new j v n hj (fun e => by cases e) hjk⟩, hk, h1, h1.look⟩
theorem P3.quiet {w wr W : World} {B base : Nat} {rs gs : List (Value × Nat)} {gv : Value} {k : Nat} {v v' : Value} {n i : Nat} (h : P3 w wr B base rs gs gv k v n v' i) (hbase : base ≤ w.heap.size) (hN : rs.length ≤ 200) (hg : wr.grownBy W none) : P3 w W B base rs gs gv k v n v' i :=
  ⟨h.rest.grown (v := v) (n' := 0) (kk := k) hbase hg hN (fun _ => rfl) (.inl rfl), h.it, h.row.grown hg (fun b _ e => by cases e), h.was.grown hg (fun b _ e => by cases e)⟩
/-- one more is appended -/
theorem P3.step {w wr W : World} {B base : Nat} {rs gs : List (Value × Nat)} {gv : Value} {k : Nat} {v v' v'' : Value} {n i : Nat} (h : P3 w wr B base rs gs gv k v n v' i) (hbase : base ≤ w.heap.size) (hN : rs.length ≤ 200)
    (ho : W.ownsRow base 9 1 v'' (n + i + 1) (marksV k (n + i) ++ [markV k (n + i)]))
    (hs : (v''.ownBlock = v'.ownBlock ∧ wr.grownBy W v'.ownBlock) ∨ (v''.ownBlock = some wr.heap.size ∧ wr.grownBy W none)) : P3 w W B base rs gs gv k v n v'' (i + 1) := by
  have hkl : k < rs.length := (List.getElem?_eq_some_iff.1 h.it).1
  rw [← marksV_succ] at ho
  have hrow : RowX W base v'' (n + (i + 1)) (marksV k (n + (i + 1))) := ⟨ho, fun e => by omega⟩
  rcases hs with ⟨h1, h2⟩ | ⟨h1, h2⟩
  · refine ⟨h.rest.grown (v := v') (n' := n + i) (kk := k) hbase h2 hN (fun _ => rfl) (.inr ⟨rfl, hkl, rfl, h.row⟩), h.it, hrow, ?_⟩
    by_cases hn : n = 0
    · obtain ⟨o, cap, rfl, a1, a2, a3, _⟩ := h.was
      exact ⟨o, cap, rfl, a1, a2, a3, fun j x hj => by omega⟩
    · by_cases hb : v.ownBlock = v'.ownBlock
      · obtain ⟨o, cap, rfl, a1, a2, a3, a4⟩ := h.was
        refine ⟨o, cap, rfl, a1, a2, a3, fun j x hj hx => ?_⟩
        obtain ⟨g, cur, rfl, hg, hc⟩ := a4 j x hj hx
        obtain ⟨g2, cap2, hv2, hcell⟩ := hrow.look.cell (i := j) (x := markV k j) (by omega) (marksV_get (by omega))
        have hgg : g2 = g := by
          have e := h1
          rw [← hb, hv2] at e
          simpa [Value.ownBlock] using e
        subst hgg
        rw [marksV_get hj] at hx
        injection hx with hx
        subst hx
        obtain ⟨_, cur2, hg2⟩ := hrow.block (b := g2) (by rw [hv2]; rfl)
        refine ⟨g2, cur2, rfl, hg2, ?_⟩
        unfold World.cell? at hcell
        rw [hg2] at hcell
        exact hcell
      · exact h.was.grown h2 (fun b e e2 => hb (e.trans e2.symm))
  · refine ⟨h.rest.grown (v := v') (n' := n + i) (kk := k) hbase h2 hN (fun _ => rfl) (.inl rfl), h.it, hrow, h.was.grown h2 (fun b _ e => by cases e)⟩
/-- the grown list is laid down -/
theorem P3.next {w wr W : World} {B base : Nat} {rs gs : List (Value × Nat)} {gv gv' : Value} {k : Nat} {v v' : Value} {n : Nat} (h : P3 w wr B base rs gs gv k v n v' 64) (hbase : base ≤ w.heap.size) (hN : rs.length ≤ 200)
    (hs : (gv'.ownBlock = gv.ownBlock ∧ wr.grownBy W gv.ownBlock) ∨ (gv'.ownBlock = some wr.heap.size ∧ wr.grownBy W none)) (ho : W.ownsRow base 70 1 gv' (k + 1) (gs.map (·.1) ++ [v'])) : P2 w W B base rs (gs ++ [(v', n + 64)]) gv' (k + 1) false := by
  have hg : wr.grownBy W gv.ownBlock := by
    rcases hs with ⟨_, h2⟩ | ⟨_, h2⟩
    · exact h2
    · exact ⟨h2.os, h2.tape, h2.output, h2.size, fun k hk _ => h2.block k hk (by simp)⟩
  have hgb : gv'.ownBlock ≠ some B := by
    rcases hs with ⟨h1, _⟩ | ⟨h1, _⟩
    · rw [h1]; exact h.rest.gb
    · rw [h1]
      have := heap_lt h.rest.st.bb
      intro e
      injection e with e
      omega
  have hne : ∀ (b : Nat) cur, gv.ownBlock = some b → wr.heap[b]? = some (.cells cur 9 (0, 0)) → False := fun b cur hb hc => by
    obtain ⟨_, cur', h3⟩ := row_type h.rest.gr hb
    rw [hc] at h3
    injection h3 with h3
    injection h3 with _ h3 _
    exact absurd h3 (by decide)
  have rl : ∀ {v2 : Value} {n2 j : Nat}, RowL wr v2 n2 (marksV j n2) → RowL W v2 n2 (marksV j n2) := fun {v2 n2 j} h2 => h2.grown hg fun b hb e => by
    obtain ⟨cur, hc⟩ := h2.block (marksV_len _ _) hb
    exact hne b cur e hc
  have rx : ∀ {v2 : Value} {n2 j : Nat}, RowX wr base v2 n2 (marksV j n2) → RowX W base v2 n2 (marksV j n2) := fun {v2 n2 j} h2 => h2.grown hg fun b hb e => by
    obtain ⟨_, cur, hc⟩ := h2.block hb
    exact hne b cur e hc
  have hst : ApS w W B base rs := h.rest.st.grown hg hbase fun b hb => by
    exact ⟨(row_type h.rest.gr hb).1, fun e => h.rest.gb (by rw [hb, e])⟩
  refine ⟨hst, by simp [h.rest.gl], by rw [List.map_append]; exact ho, hgb, fun j v2 n2 hj hjk => ?_, fun j v2 n2 hj _ hjk => rx (h.rest.new j v2 n2 (by omega) (fun _ => by omega) hjk)⟩
  by_cases hjk2 : j = k
  · subst hjk2
    rw [h.it] at hjk
    injection hjk with hjk
    injection hjk with e1 e2
    subst e1
    subst e2
    refine ⟨rl h.was, v', ?_, rx h.row⟩
    rw [← h.rest.gl, List.getElem?_concat_length]
  · obtain ⟨h1, v3, h2, h3⟩ := h.rest.old j v2 n2 (by omega) hjk
    refine ⟨rl h1, v3, ?_, rx h3⟩
    rw [List.getElem?_append_left (by rw [h.rest.gl]; omega)]
    exact h2
theorem P1.second {w wr : World} {B base : Nat} {rs : List (Value × Nat)} (h : P1 w wr B base rs rs.length 0) : P2 w wr B base rs [] (.slice none 0 0) 0 false :=
  ⟨h.1, rfl, World.ownsRow_nil _ _ _ _, (by simp [Value.ownBlock]), fun j v n hj => by omega, fun j v n _ _ hjk => by
    obtain ⟨xs, h1, h2, _⟩ := h.2 j v n hjk
    rw [h2 (List.getElem?_eq_some_iff.1 hjk).1] at h1
    exact h1⟩
end
section
open Go.RowKit Go.Maps Go.Shelf
open Go.Lib hiding intOf size_eq
theorem P3.app {w wr : World} {B base : Nat} {rs gs : List (Value × Nat)} {gv : Value} {k : Nat} {v v' : Value} {n : Nat} (h : P3 w wr B base rs gs gv k v n v' 64) (hbase : base ≤ w.heap.size) (hN : rs.length ≤ 200) :
    (wr.alloc (.cells #[v'] 70)).ownsRow base 70 1 gv k (gs.map (·.1)) ∧ base ≤ (wr.alloc (.cells #[v'] 70)).heap.size ∧ (∀ (j : Nat) (u : Value), [v'][j]? = some u → (wr.alloc (.cells #[v'] 70)).cell? ((⟨wr.heap.size, 0, none⟩ : Addr).add j) = some u) ∧
      ∀ gv' w6, w6.ownsRow base 70 1 gv' (k + 1) (gs.map (·.1) ++ [v']) → ((gv'.ownBlock = gv.ownBlock ∧ (wr.alloc (.cells #[v'] 70)).grownBy w6 gv.ownBlock) ∨ (gv'.ownBlock = some (wr.alloc (.cells #[v'] 70)).heap.size ∧ (wr.alloc (.cells #[v'] 70)).grownBy w6 none)) →
        P2 w w6 B base rs (gs ++ [(v', n + 64)]) gv' (k + 1) false := by
  have hq := h.quiet hbase hN (grown_alloc (w := wr) (.cells #[v'] 70))
  refine ⟨hq.rest.gr, by have := h.rest.st.bel.size; rw [World.size_alloc]; omega, fun j u hj => ?_, fun gv' w6 ho hs => hq.next hbase hN hs ho⟩
  cases j with
  | zero =>
    injection hj with hj
    subst hj
    show (wr.alloc _).cell? ⟨wr.heap.size, 0, none⟩ = _
    unfold World.cell?
    rw [World.alloc_heap_new]
    rfl
  | succ j => simp at hj
theorem P2.quiet {w wr W : World} {B base : Nat} {rs gs : List (Value × Nat)} {gv : Value} {k : Nat} (h : P2 w wr B base rs gs gv k false) (hbase : base ≤ w.heap.size) (hN : rs.length ≤ 200) (hg : wr.grownBy W none) : P2 w W B base rs gs gv k false :=
  h.grown (v := .bool false) (n' := 0) (kk := k) hbase hg hN (fun _ => rfl) (.inl rfl)
/-- the grown list k as it is read -/
theorem P2.read {w wr : World} {B base : Nat} {rs gs : List (Value × Nat)} {gv : Value} {k N : Nat} (h : P2 w wr B base rs gs gv N false) (hbase : base ≤ w.heap.size) (hk : k < N) {v : Value} {n : Nat} (hkn : rs[k]? = some (v, n)) :
    ∃ (g gcap g2 c2 : Nat) (o : Option Addr) (c : Nat), gv = .slice (some ⟨g, 0, none⟩) N gcap ∧ N ≤ gcap ∧ gcap ≤ maxLen ∧ n + 64 ≤ c2 ∧ c2 ≤ maxLen ∧ v = .slice o n c ∧ n ≤ c ∧ c ≤ maxLen ∧ (∀ i, i < n → ∃ g3, o = some ⟨g3, 0, none⟩) ∧
      ∀ W, wr.grownBy W none → W.cell? ⟨g, k, none⟩ = some (.slice (some ⟨g2, 0, none⟩) (n + 64) c2) ∧ W.cell? ⟨B, k, none⟩ = some v ∧ (∀ i, i < n + 64 → W.cell? ⟨g2, i, none⟩ = some (markV k i)) ∧ ∀ i g3, i < n → o = some ⟨g3, 0, none⟩ → W.cell? ⟨g3, i, none⟩ = some (markV k i) := by
  obtain ⟨h1, v', h2, h3⟩ := h.old k v n hk hkn
  obtain ⟨o2, c2, rfl, a1, a2, a3⟩ := h3.val
  obtain ⟨g2, rfl⟩ := a3 (by omega)
  obtain ⟨o, c, rfl, b1, b2, b3, b4⟩ := h1
  obtain ⟨q1, q2⟩ := h.gr
  rcases q2 with ⟨rfl, q2⟩ | ⟨g, gcap, cur, rfl, hbg, hg, hnc, hcm, hcs, htk⟩
  · omega
  refine ⟨g, gcap, g2, c2, o, c, rfl, hnc, hcm, a1, a2, rfl, b1, b2, fun i hi => ?_, fun W hW => ⟨?_, ?_, fun i hi => ?_, fun i g3 hi e => ?_⟩⟩
  · obtain ⟨g3, cur3, e, _, _⟩ := b4 i _ hi (marksV_get hi)
    exact ⟨g3, e⟩
  · have hgw : W.heap[g]? = some (.cells cur 70 (0, 0)) := (hW.block g (heap_lt hg) (by simp)).trans hg
    have hx : (gs.map (·.1))[k]? = some (.slice (some ⟨g2, 0, none⟩) (n + 64) c2) := by rw [List.getElem?_map, h2]; rfl
    rw [← htk, List.getElem?_take, if_pos (by omega)] at hx
    exact cell_of_row hgw (by simpa using hx)
  · exact (h.st.grown hW hbase (fun b e => by cases e)).cell hkn
  · obtain ⟨g4, cap4, e, hc⟩ := (h3.grown hW (fun b _ e => by cases e)).look.cell (i := i) (x := markV k i) hi (marksV_get hi)
    injection e with e _ _
    injection e with e
    injection e with e
    subst e
    exact hc
  · obtain ⟨g4, cur4, e4, hg4, hc4⟩ := b4 i _ hi (marksV_get hi)
    rw [e] at e4
    injection e4 with e4
    injection e4 with e4
    subst e4
    exact cell_of_row ((hW.block g3 (heap_lt hg4) (by simp)).trans hg4) hc4
theorem Tryz.infoRow : (Tryz.prog.info? 70).map (fun i => (i.zero, i.size, i.bytes)) = some (some (.slice none 0 0), 1, 24) := by kernel_rfl
set_option maxRecDepth 100000 in
set_option maxHeartbeats 4000000 in
theorem apartTexts_any (rs : List (Value × Nat)) (B base cap : Nat) (w : World) (hn : rs.length ≤ 200) (hcap : rs.length ≤ cap) (hcm : cap ≤ maxLen) (hbase : base ≤ w.heap.size)
    (hB : w.heap[B]? = some (.cells (rs.map (·.1)).toArray 70 (0, 0))) (hr : ∀ (j : Nat) (v : Value) (n : Nat), rs[j]? = some (v, n) → ∃ xs, RowX w base v n xs) (hd : ApD rs) (hl : ∀ (j : Nat) (v : Value) (n : Nat), rs[j]? = some (v, n) → n ≤ 4194304) :
    Calls Tryz.prog 40 #[.slice (some ⟨B, 0, none⟩) rs.length cap] w fun r w' => r = .returned (.bool true) ∧ Below base w w' := by
  obtain ⟨N, hN⟩ : ∃ N, N = rs.length := ⟨_, rfl⟩
  have h1 : P1 w w B base rs 0 0 := ⟨⟨Below.refl _ _, hB⟩, fun j v n hj => by
    obtain ⟨xs, hx⟩ := hr j v n hj
    exact ⟨xs, hx, fun h => by omega, fun _ a ha => by omega⟩⟩
  rw [← hN] at hn hcap ⊢
  have Hl := Lib.hid hl
  have Hd := Lib.hid hd
  have HN := Lib.hid hN
  have H1 := Lib.hid h1
  have mk := fun (k i : Nat) (W : World) (hk : k ≤ 200) (hi : i ≤ 4194368) => markTexts_any k i W (by omega) (by omega)
  have HM := Lib.hid mk
  clear hB hr hd hl hN h1 mk
  go_enter Tryz.func40, Tryz.ntmps40
  go_upto_block 0 with fail
  go_cut [2] (fun rv wx => rv = .bool false ∧ P1 w wx B base rs N 0)
  case first =>
    go_wp2_with fail
    go_loopw [3, 4] (fun kv _ wr => ∃ (k : Nat), kv = .int .i64 (k : Int) ∧ k ≤ N ∧ P1 w wr B base rs k 0) (fun kv _ _ => N - (intOf kv).toNat)
    case atStart => exact ⟨0, rfl, Nat.zero_le _, H1.out⟩
    case round =>
      obtain ⟨k, rfl, hk, hP⟩ := hrel
      by_cases hlt : k < N
      · obtain ⟨⟨v, n⟩, hkn⟩ : ∃ x, rs[k]? = some x := ⟨_, List.getElem?_eq_getElem (by rw [← HN.out]; exact hlt)⟩
        obtain ⟨xs, hx, _⟩ := hP.2 k v n hkn
        obtain ⟨o, cp, rfl, hnc, hcm2, hog⟩ := hx.val
        have hnl := Hl.out k _ n hkn
        have HP := Lib.hid hP
        have Hkn := Lib.hid hkn
        have Hog := Lib.hid hog
        clear hP hkn hx hog
        go_wp2_with fail
        obtain ⟨wo, hwo⟩ : ∃ x, x = wr := ⟨_, rfl⟩
        subst hwo
        go_loopw [4] (fun iv wr => ∃ (i : Nat), iv = .int .i64 (i : Int) ∧ i ≤ n ∧ P1 w wr B base rs k i) (fun iv _ => n - (intOf iv).toNat)
        case atStart => exact ⟨0, rfl, Nat.zero_le _, HP.out⟩
        case round =>
          obtain ⟨i, rfl, hi, hPi⟩ := hrel
          have c0 := hPi.1.cell Hkn.out
          have HPi := Lib.hid hPi
          clear hPi
          by_cases hilt : i < n
          · obtain ⟨g, rfl⟩ := Hog.out (by omega)
            have hnx : ∀ W, Below wr.heap.size wr W → W.cell? ⟨B, k, none⟩ = some (.slice (some ⟨g, 0, none⟩) n cp) ∧ W.frozen? ⟨g, i, none⟩ = false ∧ (∃ x, W.cell? ⟨g, i, none⟩ = some x) ∧ P1 w (W.setCell ⟨g, i, none⟩ (markV k i)) B base rs k (i + 1) := fun W hW => by
              have hq := HPi.out.quiet hbase (grown_none hW)
              obtain ⟨a1, a2, a3⟩ := hq.set hbase Hd.out Hkn.out hilt
              exact ⟨hq.1.cell Hkn.out, a2, a3, a1⟩
            have c0d : wr.drew.cell? ⟨B, k, none⟩ = some (.slice (some ⟨g, 0, none⟩) n cp) := c0
            have Hnx := Lib.hid hnx
            clear hnx
            go_wp2_with fail
            go_region_law (first
              | (go_simp; go_at_call 81; refine (HM.out k i _ (by omega) (by omega)).mono ?_; rintro r w4 ⟨hb4, rfl⟩
                 obtain ⟨d1, d2, ⟨x, d3⟩, d4⟩ := Hnx.out w4 ⟨hb4.os, hb4.tape, hb4.output, hb4.size, hb4.block⟩
                 have H4 := Lib.hid d4
                 clear hb4 d4))
            all_goals go_wp2_with fail
            all_goals go_roundw
            all_goals first
              | exact ⟨i + 1, by go_num, by omega, H4.out⟩
              | (simp [intOf]; omega)
          · obtain rfl : i = n := by omega
            go_wp2
            go_roundw
            case rel => exact ⟨k + 1, by go_num, by omega, HPi.out.next Hkn.out⟩
            case measure => simp [intOf]; omega
      · obtain rfl : k = N := by omega
        go_wp2
        go_meet
        exact ⟨rfl, hP⟩
  case rest =>
    obtain ⟨rfl, hP⟩ := hcut
    have H2 := Lib.hid (P1.second (HN.out ▸ hP))
    clear hP
    obtain ⟨i0, hi, hz0, hz1, hz2⟩ := info_parts Tryz.infoString
    obtain ⟨i1, hi1, hy0, hy1, hy2⟩ := info_parts Tryz.infoRow
    have Hi := Lib.hid hi
    have Hz0 := Lib.hid hz0
    have Hz1 := Lib.hid hz1
    have Hz2 := Lib.hid hz2
    have Hi1 := Lib.hid hi1
    have Hy0 := Lib.hid hy0
    have Hy1 := Lib.hid hy1
    have Hy2 := Lib.hid hy2
    clear hi hz0 hz1 hz2 hi1 hy0 hy1 hy2
    go_upto_block 4 with fail
    go_cut [2, 5] (fun rv gv wx => rv = .bool false ∧ ∃ gs, P2 w wx B base rs gs gv N false)
    case first =>
      go_wp2_with fail
      go_loopw [5, 6, 7, 8] (fun gv kv _ _ wr => ∃ (k : Nat) (gs : List (Value × Nat)), kv = .int .i64 (k : Int) ∧ k ≤ N ∧ P2 w wr B base rs gs gv k false) (fun _ kv _ _ _ => N - (intOf kv).toNat)
      case atStart => exact ⟨0, [], rfl, Nat.zero_le _, H2.out⟩
      case round =>
        obtain ⟨k, gs, rfl, hk, hP⟩ := hrel
        by_cases hlt : k < N
        · obtain ⟨⟨v, n⟩, hkn⟩ : ∃ x, rs[k]? = some x := ⟨_, List.getElem?_eq_getElem (by rw [← HN.out]; exact hlt)⟩
          obtain ⟨o, cp, rfl, hnc, hcm2, hog⟩ := (hP.new k v n (Nat.le_refl _) (fun e => by cases e) hkn).val
          have hnl := Hl.out k _ n hkn
          have c0 := hP.st.cell hkn
          have HP := Lib.hid (hP.start hkn)
          have Hkn := Lib.hid hkn
          have Hgl := Lib.hid hP.gl
          clear hP hkn hog
          go_wp2_with fail
          obtain ⟨wo, hwo⟩ : ∃ x, x = wr := ⟨_, rfl⟩
          subst hwo
          clear c0
          go_loopw [7, 8] (fun g iv wr => ∃ (i : Nat), iv = .int .i64 (i : Int) ∧ i ≤ 64 ∧ P3 w wr B base rs gs _ k (.slice o n cp) n g i) (fun _ iv _ => 64 - (intOf iv).toNat)
          case atStart => exact ⟨0, rfl, Nat.zero_le _, HP.out⟩
          case round =>
            obtain ⟨i, rfl, hi, hPi⟩ := hrel
            obtain ⟨o2, cp2, rfl, hnc2, hcm3, _⟩ := hPi.row.val
            have c0 := hPi.rest.st.cell Hkn.out
            by_cases hilt : i < 64
            · have hm := HM.out k (n + i)
              rw [show ((n + i : Nat) : Int) = (n : Int) + (i : Int) from by simp] at hm
              have hsz := hPi.rest.st.bel.size
              have nxt : ∀ W, Below wr.heap.size wr W → W.ownsRow base 9 1 (.slice o2 (n + i) cp2) (n + i) (marksV k (n + i)) ∧ base ≤ W.heap.size ∧ (∀ (j : Nat) (u : Value), [markV k (n + i)][j]? = some u → (W.alloc (.cells #[markV k (n + i)] 9)).cell? ((⟨W.heap.size, 0, none⟩ : Addr).add j) = some u) ∧ (W.alloc (.cells #[markV k (n + i)] 9)).ownsRow base 9 1 (.slice o2 (n + i) cp2) (n + i) (marksV k (n + i)) ∧ base ≤ (W.alloc (.cells #[markV k (n + i)] 9)).heap.size ∧
                  ∀ v'' w6, w6.ownsRow base 9 1 v'' (n + i + 1) (marksV k (n + i) ++ [markV k (n + i)]) →
                    ((v''.ownBlock = (Value.slice o2 (n + i) cp2).ownBlock ∧ (W.alloc (.cells #[markV k (n + i)] 9)).grownBy w6 (Value.slice o2 (n + i) cp2).ownBlock) ∨ (v''.ownBlock = some (W.alloc (.cells #[markV k (n + i)] 9)).heap.size ∧ (W.alloc (.cells #[markV k (n + i)] 9)).grownBy w6 none)) → P3 w w6 B base rs gs _ k (.slice o n cp) n v'' (i + 1) := fun W hW => by
                have hg0 := grown_none hW
                have hq := hPi.quiet hbase (by rw [← HN.out]; exact hn) hg0
                have hq2 := hq.quiet hbase (by rw [← HN.out]; exact hn) (grown_alloc (w := W) (.cells #[markV k (n + i)] 9))
                have hWs := hW.size
                refine ⟨hq.row.1, by omega, fun j u hj => ?_, hq2.row.1, by rw [World.size_alloc]; omega, fun v'' w6 ho hs => hq2.step hbase (by rw [← HN.out]; exact hn) ho hs⟩
                cases j with
                | zero =>
                  injection hj with hj
                  subst hj
                  show (W.alloc _).cell? ⟨W.heap.size, 0, none⟩ = _
                  unfold World.cell?
                  rw [World.alloc_heap_new]
                  rfl
                | succ j => simp at hj
              have Hm := Lib.hid hm
              have Hnx := Lib.hid nxt
              clear hm nxt hPi hsz
              go_wp2_with (first
                | (go_at_call 81; refine (Hm.out _ (by omega) (by omega)).mono ?_; rintro r w4 ⟨hb4, rfl⟩
                   obtain ⟨d1, d2, d3, d4, d5, d6⟩ := Hnx.out w4 ⟨hb4.os, hb4.tape, hb4.output, hb4.size, hb4.block⟩
                   have D3 := Lib.hid d3
                   have D4 := Lib.hid d4
                   have D6 := Lib.hid d6
                   clear hb4 d1 d3 d4 d6)
                | (refine wpList_append_split rfl _ _ 70 rfl base 9 i0 (.string ⟨#[]⟩) 1 16 Tryz.underlying70 Hi.out Hz0.out Hz1.out Hz2.out rfl (by decide) _ (n + i) _ rfl D4.out ⟨w4.heap.size, 0, none⟩ 1 1 [markV k (n + i)] rfl rfl D3.out (by intro u hu; rw [List.mem_singleton.1 hu]; rfl) (by unfold maxLen; omega) (by omega) d5 ?_
                   intro v'' w6 ho6 _ hs6
                   have H6 := Lib.hid (D6.out v'' w6 ho6 hs6)
                   clear ho6 hs6))
              go_roundw
              case rel => exact ⟨i + 1, by go_num, by omega, H6.out⟩
              case measure => simp [intOf]; omega
            · obtain rfl : i = 64 := by omega
              have nxt := hPi.app hbase (by rw [← HN.out]; exact hn)
              obtain ⟨d4, d5, d3, d6⟩ := nxt
              have D3 := Lib.hid d3
              have D4 := Lib.hid d4
              have D6 := Lib.hid d6
              clear d3 d4 d6 hPi
              go_wp2_with (first
                | (refine wpList_append_split rfl _ _ 77 rfl base 70 i1 (.slice none 0 0) 1 24 Tryz.underlying77 Hi1.out Hy0.out Hy1.out Hy2.out rfl (by decide) _ k _ rfl D4.out ⟨wr.heap.size, 0, none⟩ 1 1 [.slice o2 (n + 64) cp2] rfl rfl D3.out (by intro u hu; rw [List.mem_singleton.1 hu]; rfl) (by unfold maxLen; omega) (by omega) d5 ?_
                   intro v'' w6 ho6 _ hs6
                   have H6 := Lib.hid (D6.out v'' w6 ho6 hs6)
                   clear ho6 hs6))
              go_roundw
              case rel => exact ⟨k + 1, _, by go_num, by omega, H6.out⟩
              case measure => simp [intOf]; omega
        · obtain rfl : k = N := by omega
          go_wp2
          go_meet
          exact ⟨rfl, gs, hP⟩
    case rest =>
      obtain ⟨rfl, gs, hP⟩ := hcut
      have HP := Lib.hid hP
      clear hP
      go_wp2_with fail
      go_loopw [9, 10, 11] (fun kv _ _ wr => ∃ (k : Nat), kv = .int .i64 (k : Int) ∧ k ≤ N ∧ P2 w wr B base rs gs _ N false) (fun kv _ _ _ => N - (intOf kv).toNat)
      case atStart => exact ⟨0, rfl, Nat.zero_le _, HP.out⟩
      case round =>
        obtain ⟨k, rfl, hk, hP⟩ := hrel
        by_cases hlt : k < N
        · obtain ⟨⟨v, n⟩, hkn⟩ : ∃ x, rs[k]? = some x := ⟨_, List.getElem?_eq_getElem (by rw [← HN.out]; exact hlt)⟩
          have hnl := Hl.out k _ n hkn
          obtain ⟨g, gcap, g2, c2, o, c, rfl, e1, e2, e3, e4, rfl, e5, e6, e7, e8⟩ := hP.read hbase hlt hkn
          have HP := Lib.hid hP
          have Hkn := Lib.hid hkn
          have E7 := Lib.hid e7
          obtain ⟨f1, f2, f3, f4⟩ := e8 wr (grown_none (Below.refl _ _))
          have E8 := Lib.hid e8
          clear hP hkn e7 e8 f3 f4
          go_wp2_with fail
          obtain ⟨wo, hwo⟩ : ∃ x, x = wr := ⟨_, rfl⟩
          subst hwo
          go_loopw [10, 11] (fun iv _ wr => ∃ (i : Nat), iv = .int .i64 (i : Int) ∧ i ≤ n + 64 ∧ P2 w wr B base rs gs (.slice (some ⟨g, 0, none⟩) N gcap) N false ∧ ∀ W, wr.grownBy W none → W.cell? ⟨g, k, none⟩ = some (.slice (some ⟨g2, 0, none⟩) (n + 64) c2) ∧ W.cell? ⟨B, k, none⟩ = some (.slice o n c) ∧ (∀ i, i < n + 64 → W.cell? ⟨g2, i, none⟩ = some (markV k i)) ∧ ∀ i g3, i < n → o = some ⟨g3, 0, none⟩ → W.cell? ⟨g3, i, none⟩ = some (markV k i)) (fun iv _ _ => n + 64 - (intOf iv).toNat)
          case atStart => exact ⟨0, rfl, by omega, HP.out, E8.out⟩
          case round =>
            obtain ⟨i, rfl, hi, hPi, hci⟩ := hrel
            obtain ⟨f1, f2, f3, f4⟩ := hci wr (grown_none (Below.refl _ _))
            by_cases hilt : i < n + 64
            · have hm := HM.out k i
              have nxt : ∀ W, Below wr.heap.size wr W → W.cell? ⟨g, k, none⟩ = some (.slice (some ⟨g2, 0, none⟩) (n + 64) c2) ∧ W.cell? ⟨B, k, none⟩ = some (.slice o n c) ∧ W.cell? ⟨g2, i, none⟩ = some (.string (bs (markL k i))) ∧ (∀ g3, i < n → o = some ⟨g3, 0, none⟩ → W.cell? ⟨g3, i, none⟩ = some (.string (bs (markL k i)))) ∧ P2 w W B base rs gs (.slice (some ⟨g, 0, none⟩) N gcap) N false ∧
                  ∀ W', W.grownBy W' none → W'.cell? ⟨g, k, none⟩ = some (.slice (some ⟨g2, 0, none⟩) (n + 64) c2) ∧ W'.cell? ⟨B, k, none⟩ = some (.slice o n c) ∧ (∀ i, i < n + 64 → W'.cell? ⟨g2, i, none⟩ = some (markV k i)) ∧ ∀ i g3, i < n → o = some ⟨g3, 0, none⟩ → W'.cell? ⟨g3, i, none⟩ = some (markV k i) := fun W hW => by
                obtain ⟨q1, q2, q3, q4⟩ := hci W (grown_none hW)
                exact ⟨q1, q2, q3 i hilt, fun g3 h1 h2 => q4 i g3 h1 h2, hPi.quiet hbase (by rw [← HN.out]; exact hn) (grown_none hW), fun W' hW' => hci W' (grown_trans (grown_none hW) hW')⟩
              have Hm := Lib.hid hm
              have Hnx := Lib.hid nxt
              have b1 : ((bs (markL k i)).toList == (bs (markL k i)).toList) = true := by simp
              clear hm nxt hPi hci f2 f3 f4
              by_cases hin : i < n
              · obtain ⟨g3, rfl⟩ := E7.out i hin
                go_wp2_with (first
                  | (go_at_call 81; refine (Hm.out _ (by omega) (by omega)).mono ?_; rintro r w4 ⟨hb4, rfl⟩
                     obtain ⟨d1, d2, d3, d4, d5, d6⟩ := Hnx.out w4 ⟨hb4.os, hb4.tape, hb4.output, hb4.size, hb4.block⟩
                     have d7 := d4 g3 hin rfl
                     have D5 := Lib.hid d5
                     have D6 := Lib.hid d6
                     clear hb4 d4 d5 d6))
                go_roundw
                case rel => exact ⟨i + 1, by go_num, by omega, D5.out, D6.out⟩
                case measure => simp [intOf]; omega
              · go_wp2_with (first
                  | (go_at_call 81; refine (Hm.out _ (by omega) (by omega)).mono ?_; rintro r w4 ⟨hb4, rfl⟩
                     obtain ⟨d1, d2, d3, d4, d5, d6⟩ := Hnx.out w4 ⟨hb4.os, hb4.tape, hb4.output, hb4.size, hb4.block⟩
                     have D5 := Lib.hid d5
                     have D6 := Lib.hid d6
                     clear hb4 d4 d5 d6))
                go_roundw
                case rel => exact ⟨i + 1, by go_num, by omega, D5.out, D6.out⟩
                case measure => simp [intOf]; omega
            · obtain rfl : i = n + 64 := by omega
              have HPi := Lib.hid hPi
              clear hPi hci f2 f3 f4
              go_wp2
              go_roundw
              case rel => exact ⟨k + 1, by go_num, by omega, HPi.out⟩
              case measure => simp [intOf]; omega
        · obtain rfl : k = N := by omega
          go_wp2
          go_ret
          exact ⟨rfl, hP.st.bel⟩
end
end Go.Proofs.YtdkodedocklmdaaGreatDoor
