/- The reference's walk (SVal, SAt, SFoll, SStep, SName, SArm, SLink, SRound, SGoA, SGo, SFind, SSame). -/
import Derived.Test.YtdkodedocklmdaaGreatDoorTListed
import Derived.Test.YtdkodedocklmdaaGreatDoorRPlain
import Derived.Test.YtdkodedocklmdaaGreatDoorTOf
import Derived.Test.YtdkodedocklmdaaGreatDoorRGoes
import Derived.Test.YtdkodedocklmdaaGreatDoorSmall
import Derived.StillTailTactics
import Derived.Laws.StructEq
set_option linter.unusedSimpArgs false
set_option linter.unusedVariables false
namespace Go.Proofs.YtdkodedocklmdaaGreatDoor
section
open Go.RowKit Go.Maps Go.Shelf
open Go.Lib hiding intOf size_eq
theorem Tryz.walk_info : (Tryz.prog.info? 80).map (·.size) = some 8 := by kernel_rfl
theorem walk_ret {fn : Func} {p : Tmp} (h : fn.results = #[.cell p 80]) {tmps : Array Value} {W : World} {g : Nat} {cs : Array Value} (hp : tmps.getD p undef = .pointer (some ⟨g, 0, none⟩))
    (hg : W.heap[g]? = some (.cells cs 80 (0, 0))) (hs : cs.size = 8) : (results fn tmps).run Tryz.prog W = .ok (.agg cs) W :=
  results_cell_row h tmps W g _ cs _ _ hp hg Tryz.underlying80 rfl (by rw [hs]; exact Tryz.walk_info)
/-- a walk as a value -/
def walkV (oa : Option Addr) (tn tc : Nat) (st : ByteArray) (lo : Option Addr) (ln lc : Nat) (hops : Int) (ro : Option Addr) (rn rc : Nat) (dn : Bool) (an : ByteArray) (no : Int) : Value :=
  .agg #[.slice oa tn tc, .string st, .slice lo ln lc, .int .i64 hops, .slice ro rn rc, .bool dn, .string an, .int .i64 no]
set_option maxRecDepth 100000 in
set_option maxHeartbeats 1000000 in
theorem refused_any (oa lo ro : Option Addr) (tn tc ln lc rn rc : Nat) (st an : ByteArray) (hops no k : Int) (dn : Bool) (w : World) :
    Calls Tryz.prog 121 #[walkV oa tn tc st lo ln lc hops ro rn rc dn an no, .int .i64 k] w fun r w' => r = .returned (walkV oa tn tc st lo ln lc hops ro rn rc dn an k) ∧ Below w.heap.size w w' := by
  unfold walkV
  go_enter Tryz.func121, Tryz.ntmps121
  go_wp2
  exact bodyPost_ret_by (walk_ret rfl rfl (heap_alloc2_new w _ _) rfl) rfl ⟨rfl, ((Below.refl _ _).alloc (Nat.le_refl _) _).alloc (by simp) _⟩
set_option maxRecDepth 100000 in
set_option maxHeartbeats 1000000 in
theorem ended_any (oa lo ro : Option Addr) (tn tc ln lc rn rc : Nat) (st an q : ByteArray) (hops no : Int) (dn : Bool) (w : World) :
    Calls Tryz.prog 84 #[walkV oa tn tc st lo ln lc hops ro rn rc dn an no, .string q] w fun r w' => r = .returned (walkV oa tn tc st lo ln lc hops ro rn rc true q no) ∧ Below w.heap.size w w' := by
  unfold walkV
  go_enter Tryz.func84, Tryz.ntmps84
  go_wp2
  exact bodyPost_ret_by (walk_ret rfl rfl (heap_alloc2_new w _ _) rfl) rfl ⟨rfl, ((Below.refl _ _).alloc (Nat.le_refl _) _).alloc (by simp) _⟩
end
section
open Go.RowKit Go.Maps Go.Shelf
open Go.Lib hiding intOf size_eq
/-- the index of the entry at a path, or -1 -/
def atIx (L : List Ent) (q : List UInt8) : Int := match L.findIdx? (fun y => y.path == q) with
  | none => -1
  | some i => (i : Int)
theorem atIx_none {L : List Ent} {q : List UInt8} (h : ∀ e ∈ L, e.path ≠ q) : atIx L q = -1 := by
  have : L.findIdx? (fun y => y.path == q) = none := by
    rw [List.findIdx?_eq_none_iff]
    intro e he
    simp [h e he]
  unfold atIx
  rw [this]
theorem atIx_some {L : List Ent} {q : List UInt8} {k : Nat} {e : Ent} (hk : L[k]? = some e) (hq : e.path = q) (h : ∀ j x, j < k → L[j]? = some x → x.path ≠ q) : atIx L q = (k : Int) := by
  obtain ⟨hlt, hge⟩ := List.getElem?_eq_some_iff.1 hk
  have : L.findIdx? (fun y => y.path == q) = some k := by
    rw [List.findIdx?_eq_some_iff_getElem]
    refine ⟨hlt, by rw [hge]; simp [hq], fun j hj => ?_⟩
    have := h j _ hj (List.getElem?_eq_getElem (by omega))
    simpa using this
  unfold atIx
  rw [this]
theorem atIx_look {L : List Ent} {q : List UInt8} {e : Ent} (h : lookE L q = some e) : ∃ k : Nat, atIx L q = (k : Int) ∧ L[k]? = some e := by
  unfold lookE at h
  rw [List.find?_eq_some_iff_getElem] at h
  obtain ⟨hp, i, hi, hge, hn⟩ := h
  refine ⟨i, atIx_some (List.getElem?_eq_some_iff.2 ⟨hi, hge⟩) (by simpa using hp) fun j x hj hx => ?_, List.getElem?_eq_some_iff.2 ⟨hi, hge⟩⟩
  obtain ⟨h1, rfl⟩ := List.getElem?_eq_some_iff.1 hx
  simpa using hn j hj
theorem atIx_miss {L : List Ent} {q : List UInt8} (h : lookE L q = none) : atIx L q = -1 := atIx_none fun e he hp => by
  unfold lookE at h
  rw [List.find?_eq_none] at h
  exact h e he (by simp [hp])
set_option maxRecDepth 100000 in
set_option maxHeartbeats 1000000 in
theorem at_any (v : Value) (L : List Ent) (q : ByteArray) (w : World) (h : EntsAt w v L) (hl : L.length ≤ 1099511627776) (hb : ∀ e ∈ L, e.p.size < 4611686018427387904) (hq : q.size < 4611686018427387904) :
    Calls Tryz.prog 119 #[v, .string q] w fun r w' => w' = w ∧ r = .returned (.int .i64 (atIx L q.data.toList)) := by
  obtain ⟨o, cap, rfl, hlc, hcm, hcells⟩ := h
  obtain ⟨n, hn⟩ : ∃ n, n = L.length := ⟨_, rfl⟩
  rw [← hn] at hlc hl ⊢
  have Hcells := Lib.hid hcells
  have Hn := Lib.hid hn
  have Hb := Lib.hid hb
  obtain ⟨qv, hqv⟩ : ∃ x, x = Value.string q := ⟨_, rfl⟩
  clear hcells hn hb
  go_enter Tryz.func119, Tryz.ntmps119
  go_wp2
  go_loopw [5] (fun iv wr => ∃ (k : Nat), iv = .int .i64 (k : Int) ∧ k ≤ n ∧ (∀ j x, j < k → L[j]? = some x → x.path ≠ q.data.toList) ∧ wr = w) (fun iv _ => n - (intOf iv).toNat)
  case atStart => exact ⟨0, rfl, Nat.zero_le _, fun j x hj => by omega, rfl⟩
  case round =>
    obtain ⟨k, rfl, hk, hno, rfl⟩ := hrel
    by_cases hlt : k < n
    · obtain ⟨e, hek⟩ : ∃ e, L[k]? = some e := ⟨_, List.getElem?_eq_getElem (by rw [← Hn.out]; exact hlt)⟩
      obtain ⟨a, rfl, hal, hcs⟩ := Hcells.out k e hek
      have hcw : wr.cell? (a.add (k * 5)) = some (.string e.p) := by rw [← add_zero' (a.add (k * 5))]; exact hcs 0 _ rfl
      have hep := Hb.out e (List.mem_of_getElem? hek)
      have Hno := Lib.hid hno
      have Hek := Lib.hid hek
      clear hno hek hcs Hcells
      by_cases hpq : e.path = q.data.toList
      · have b1 : (e.p.toList == q.toList) = true := eqB_t (by rw [toList_data]; exact hpq)
        have Hr := Lib.hid (atIx_some Hek.out hpq Hno.out)
        clear hpq
        go_wp2
        go_ret
        exact ⟨rfl, by rw [Hr.out]; rfl⟩
      · have b1 : (e.p.toList == q.toList) = false := eqB_f (by rw [toList_data]; exact hpq)
        have Hpq := Lib.hid hpq
        clear hpq
        go_wp2
        go_roundw
        case rel =>
          refine ⟨k + 1, by go_num, by omega, fun j x hj hx => ?_, trivial⟩
          by_cases hjk : j = k
          · subst hjk
            rw [Hek.out] at hx
            injection hx with hx
            subst hx
            exact Hpq.out
          · exact Hno.out j x (by omega) hx
        case measure => simp [intOf]; omega
    · have Hr := Lib.hid (show atIx L q.data.toList = -1 from atIx_none fun e he => by
        obtain ⟨j, hj⟩ := List.mem_iff_getElem?.1 he
        exact hno j e (by have := (List.getElem?_eq_some_iff.1 hj).1; rw [← Hn.out] at this; omega) hj)
      clear hno Hcells
      go_wp2
      go_ret
      exact ⟨rfl, by rw [Hr.out]; rfl⟩
end
section
open Go.RowKit Go.Maps Go.Shelf
open Go.Lib hiding intOf size_eq
/-- the cells of a walk's value -/
def walkC (oa : Option Addr) (tn tc : Nat) (st : ByteArray) (lo : Option Addr) (ln lc : Nat) (hops : Int) (ro : Option Addr) (rn rc : Nat) (dn : Bool) (an : ByteArray) (no : Int) : Array Value :=
  #[.slice oa tn tc, .string st, .slice lo ln lc, .int .i64 hops, .slice ro rn rc, .bool dn, .string an, .int .i64 no]
def walkZ : Array Value := walkC none 0 0 ⟨#[]⟩ none 0 0 0 none 0 0 false ⟨#[]⟩ 0
theorem LeftA.below {w W : World} {o : Option Addr} {cap : Nat} {L : List (List UInt8)} {B : Nat} (h : LeftA w o cap L) (hb : Below B w W) (hB : w.heap.size ≤ B) : LeftA W o cap L :=
  h.but (ex := []) ⟨hb.os, hb.tape, hb.output, hb.size, fun k hk _ => hb.block k (by omega)⟩ (fun a _ => by simp)
theorem below_rowSet {B g : Nat} {w W : World} (h : Below B w W) (hg : B ≤ g) (cs : Array Value) : Below B w (W.setRow g cs) :=
  ⟨h.os, h.tape, h.output, Nat.le_trans h.size (by simp [World.setRow]), fun k hk => (setRow_other W g k cs (by omega)).trans (h.block k hk)⟩
theorem LeftA.rowSet {W : World} {o : Option Addr} {cap : Nat} {L : List (List UInt8)} (h : LeftA W o cap L) (g : Nat) (cs : Array Value) (ho : ∀ a, o = some a → a.block ≠ g) : LeftA (W.setRow g cs) o cap L :=
  h.but (ex := [g]) ⟨rfl, rfl, rfl, by simp [World.setRow], fun k hk hn => setRow_other W g k cs (by simpa using hn)⟩ (fun a ha => by simpa using ho a ha)
theorem LeftA.cellSet {W : World} {o : Option Addr} {cap : Nat} {L : List (List UInt8)} (h : LeftA W o cap L) (p : Addr) (v : Value) (ho : ∀ a, o = some a → a.block ≠ p.block) : LeftA (W.setCell p v) o cap L :=
  h.but (ex := [p.block]) ((But.refl _ W).setCell (.inl (List.mem_singleton.2 rfl)) v) (fun a ha => by simpa using ho a ha)
theorem first_byte {t : ByteArray} (h : 0 < t.size) : (t.extract 0 1).toList = [t[0]'h] := by
  rw [toList_data]
  obtain ⟨⟨l⟩⟩ := t
  cases l with
  | nil => exact absurd (show 0 < 0 from h) (by omega)
  | cons x r =>
    simp [ByteArray.extract, ByteArray.copySlice]
    rfl
theorem link_cases {t : ByteArray} (st : ByteArray) (h : 0 < t.size) : (((t.extract 0 1).toList == [47]) = true ∧ linkB st t = (⟨#[]⟩ : ByteArray)) ∨ (((t.extract 0 1).toList == [47]) = false ∧ linkB st t = st) := by
  have h2 := head_byte h
  rw [first_byte h]
  unfold linkB
  rw [h2]
  by_cases h4 : t[0]'h = 47
  · rw [h4]; exact .inl ⟨rfl, rfl⟩
  · exact .inr ⟨by simp [h4], by rw [if_neg (by simpa using h4)]⟩
set_option maxRecDepth 100000 in
set_option maxHeartbeats 1000000 in
theorem followed_any (oa lo ro : Option Addr) (tn tc lc rn rc : Nat) (left : List (List UInt8)) (st an t : ByteArray) (hops : Nat) (no : Int) (dn : Bool) (w : World)
    (hl : LeftA w lo lc left) (ht0 : t.data.toList ≠ []) (ht : t.size ≤ 1099511627776) (hll : left.length ≤ 1099511627776) (hh : hops ≤ 40) :
    Calls Tryz.prog 122 #[walkV oa tn tc st lo left.length lc hops ro rn rc dn an no, .string t] w fun r w' => Below w.heap.size w w' ∧
      (hops = 40 → r = .returned (walkV oa tn tc st lo left.length lc hops ro rn rc dn an 12)) ∧
      (hops ≠ 40 → ∃ o' c', r = .returned (walkV oa tn tc (linkB st t) o' (pieces t.data.toList ++ left).length c' ((hops + 1 : Nat) : Int) ro rn rc dn an no) ∧ LeftA w' o' c' (pieces t.data.toList ++ left) ∧ ∀ b, o' = some b → w.heap.size ≤ b.block) := by
  unfold walkV
  obtain ⟨n, hn⟩ : ∃ n, n = left.length := ⟨_, rfl⟩
  rw [← hn]
  by_cases h40 : hops = 40
  · subst h40
    clear hl hn
    go_enter Tryz.func122, Tryz.ntmps122
    go_wp2_with (first
      | (go_at_call 121; refine (refused_any _ _ _ _ _ _ _ _ _ _ _ _ _ _ _ _).mono ?_; rintro r w2 ⟨rfl, hb2⟩
         have HB2 := Lib.hid ((hb2.block (w.heap.size + 1) (by simp)).trans (heap_alloc2_new w _ _))
         have HL2 := Lib.hid ((((Below.refl w.heap.size w).alloc (Nat.le_refl _) _).alloc (by simp) _).trans (hb2.mono (by simp; omega)))
         clear hb2
         unfold walkV)
      | (refine wpList_store_row rfl _ _ _ rfl (w.heap.size + 1) _ rfl rfl 80 _ HB2.out (by kernel_rfl) rfl (by kernel_rfl) ?_))
    exact bodyPost_ret_by (walk_ret rfl rfl (setRow_at HB2.out) rfl) rfl ⟨below_rowSet HL2.out (by omega) _, fun _ => rfl, fun h => absurd rfl h⟩
  · have b0 : ((hops : Int) == 40) = false := by simp; omega
    have hn0 : 0 < t.size := by rw [Lib.size_eq]; exact List.length_pos_iff.2 ht0
    have HP := Lib.hid (fun W => rpieces_any t W ht)
    have hlen : (pieces t.data.toList).length ≤ 2199023255552 := by
      have h1 := weight_length (pieces t.data.toList)
      have h2 := weight_pieces t.data.toList
      rw [← Lib.size_eq] at h2
      omega
    obtain ⟨i0, hi, hz0, hz1, hz2⟩ := info_parts Tryz.infoString
    have Hi := Lib.hid hi
    have Hz0 := Lib.hid hz0
    have Hz1 := Lib.hid hz1
    have Hz2 := Lib.hid hz2
    clear hi hz0 hz1 hz2
    have Hl := Lib.hid hl
    obtain ⟨ps, hps⟩ : ∃ ps, ps = pieces t.data.toList := ⟨_, rfl⟩
    rw [← hps] at hlen HP ⊢
    obtain ⟨m, hm⟩ : ∃ m, m = ps.length := ⟨_, rfl⟩
    rw [← hm] at hlen
    have Hm := Lib.hid hm
    have Hn := Lib.hid hn
    have Hne := Lib.hid (show (hops : Int) + 1 = ((hops + 1 : Nat) : Int) by omega)
    have Hh4 := Lib.hid h40
    rw [← hn] at hll
    have hlm : lc ≤ maxLen := hl.max
    have hnl : n ≤ lc := by rw [hn]; exact hl.le
    clear hps hl hm hn h40
    rcases link_cases st hn0 with ⟨b1, hst⟩ | ⟨b1, hst⟩
    all_goals
      rw [hst]
      clear hst
      go_enter Tryz.func122, Tryz.ntmps122
      go_wp2_with fail
      refine (HP.out _).mono ?_
      rintro r w1 ⟨v, rfl, htx, hb⟩
      have hs1 : w.heap.size + 2 ≤ w1.heap.size := by have := hb.size; simpa using this
      have HB1 := Lib.hid ((hb.block w.heap.size (by simp; omega)).trans (heap_alloc2_old w _ _))
      have HZ1 := Lib.hid ((hb.block (w.heap.size + 1) (by simp)).trans (heap_alloc2_new w _ _))
      have HL1 := Lib.hid ((((Below.refl w.heap.size w).alloc (Nat.le_refl _) _).alloc (by simp) _).trans (hb.mono (by simp; omega)))
      have Htx := Lib.hid (show Texts w1 (w.heap.size + 2) v ps by have := htx; simpa using this)
      clear htx hb HP
      go_wp2_with fail
      go_loopw [5, 6] (fun ov iv wr => ∃ k : Nat, iv = .int .i64 k ∧ k ≤ n ∧ Texts wr (w.heap.size + 2) ov (ps ++ left.take k) ∧ Below (w.heap.size + 2) w1 wr) (fun _ iv _ => n - (intOf iv).toNat)
      case atStart => exact ⟨0, rfl, by omega, by simpa using Htx.out, Below.refl _ _⟩
      case round =>
        obtain ⟨k, rfl, hk, htx, hbr⟩ := hrel
        have hbrs := hbr.size
        have hbox := (hbr.block w.heap.size (by omega)).trans HB1.out
        have hc2 : wr.cell? ⟨w.heap.size, 2, none⟩ = some (.slice lo n lc) := by unfold World.cell?; rw [hbox]; rfl
        have hf2 : wr.frozen? ⟨w.heap.size, 2, none⟩ = false := by unfold World.frozen?; rw [hbox]; rfl
        have Hbox := Lib.hid hbox
        have Hlw := Lib.hid (Hl.out.below (HL1.out.trans (hbr.mono (by omega))) (Nat.le_refl _))
        have Htxr := Lib.hid htx
        have Hbr := Lib.hid hbr
        clear htx hbr hbox
        by_cases hlt : k < n
        · obtain ⟨x, hx⟩ : ∃ x, left[k]? = some x := ⟨_, List.getElem?_eq_getElem (by rw [← Hn.out]; exact hlt)⟩
          obtain ⟨ad, rfl, hcx⟩ := Hlw.out.cell k x hx
          have hcx' : wr.cell? (ad.add k) = some (.string (bs x)) := hcx
          have Htake := Lib.hid (show ps ++ left.take (k + 1) = (ps ++ left.take k) ++ [x] by rw [List.take_add_one, hx]; simp)
          have hln : (ps ++ left.take k).length ≤ m + n := by rw [List.length_append, ← Hm.out]; simp; omega
          clear hx hcx
          go_wp2_with (at_builtin; refine wpList_append_own _ rfl _ _ 70 rfl (w.heap.size + 2) 9 i0 (.string ⟨#[]⟩) 1 16 Tryz.underlying70 Hi.out Hz0.out Hz1.out Hz2.out rfl (by decide) _ _ _ rfl (Htxr.out.alloc _) ⟨wr.heap.size, 0, none⟩ 1 1 [.string (bs x)] rfl rfl (cell_one_new _ _ _) (by simp [Value.oneCell']) (by unfold maxLen; omega) (by omega) (by simp; omega) ?_; intro v' w2 hown' hgrow _)
          go_roundw
          case rel => exact ⟨k + 1, by go_num, by omega, by rw [Htake.out]; exact texts_snoc hown' rfl, texts_below Htxr.out Hbr.out hgrow⟩
          case measure => simp [intOf]; omega
        · obtain rfl : k = n := by omega
          obtain ⟨o', c', rfl, hlo, hob⟩ := left_of_texts Htxr.out
          have htl : left.take k = left := List.take_of_length_le (by rw [← Hn.out]; omega)
          rw [htl] at hlo
          have Hln := Lib.hid (show (ps ++ left.take k).length = (ps ++ left).length by rw [htl])
          have Hset := Lib.hid (heap_setCell_same wr w.heap.size 2 _ _ (.slice o' (ps ++ left.take k).length c') Hbox.out)
          have HZr := Lib.hid ((heap_setCell_other wr ⟨w.heap.size, 2, none⟩ (w.heap.size + 1) (.slice o' (ps ++ left.take k).length c') (by simp)).trans ((Hbr.out.block (w.heap.size + 1) (by omega)).trans HZ1.out))
          have Hlo := Lib.hid hlo
          have Hob := Lib.hid hob
          clear htl hlo hob Htxr
          generalize (ps ++ left.take k).length = q at *
          go_wp2_with (first
            | (refine wpList_load_row rfl _ _ rfl w.heap.size rfl 80 _ (0, 0) _ Hset.out Tryz.underlying80 rfl (by kernel_rfl) ?_)
            | (refine wpList_store_row rfl _ _ _ rfl (w.heap.size + 1) _ rfl rfl 80 _ HZr.out (by kernel_rfl) rfl (by kernel_rfl) ?_))
          have hbw : Below w.heap.size w wr := HL1.out.trans (Hbr.out.mono (by omega))
          refine bodyPost_ret_by (walk_ret rfl rfl (setRow_at HZr.out) rfl) rfl ⟨below_rowSet (hbw.setCell (p := ⟨w.heap.size, 2, none⟩) (Nat.le_refl _) _) (by omega) _, fun h => absurd h Hh4.out, fun _ => ⟨o', c', ?_, ?_, fun b hb => by have := Hob.out b hb; omega⟩⟩
          · rw [← Hln.out, ← Hne.out]; rfl
          · exact (Hlo.out.cellSet ⟨w.heap.size, 2, none⟩ _ (fun a ha e => by have := Hob.out a ha; simp only [] at e; omega)).rowSet _ _ (fun a ha e => by have := Hob.out a ha; omega)
end
section
open Go.RowKit Go.Maps Go.Shelf
open Go.Lib hiding intOf size_eq
set_option maxRecDepth 100000 in
set_option maxHeartbeats 1000000 in
theorem missing_any (oa lo ro : Option Addr) (tn tc ln lc rn rc : Nat) (st an c q : ByteArray) (hops : Int) (no s : Int) (dn : Bool) (w : World) (hs : s = 0 ∨ s = 1) :
    Calls Tryz.prog 120 #[walkV oa tn tc st lo ln lc hops ro rn rc dn an no, .string c, .string q, .int .i64 s] w fun r w' => Below w.heap.size w w' ∧
      r = .returned (walkV oa tn tc st lo ln lc hops ro rn rc dn an 10) := by
  unfold walkV
  rcases hs with rfl | rfl
  all_goals
    go_enter Tryz.func120, Tryz.ntmps120
    go_wp2_with (first
      | (go_at_call 121; refine (refused_any _ _ _ _ _ _ _ _ _ _ _ _ _ _ _ _).mono ?_; rintro r w2 ⟨rfl, hb2⟩
         have HB2 := Lib.hid ((hb2.block (w.heap.size + 1) (by simp)).trans (heap_alloc2_new w _ _))
         have HL2 := Lib.hid ((((Below.refl w.heap.size w).alloc (Nat.le_refl _) _).alloc (by simp) _).trans (hb2.mono (by simp; omega)))
         clear hb2
         unfold walkV)
      | (refine wpList_store_row rfl _ _ _ rfl (w.heap.size + 1) _ rfl rfl 80 _ HB2.out (by kernel_rfl) rfl (by kernel_rfl) ?_))
    exact bodyPost_ret_by (walk_ret rfl rfl (setRow_at HB2.out) rfl) rfl ⟨below_rowSet HL2.out (by omega) _, rfl⟩
/-- what a step makes of a walk -/
def StepRes (w' : World) (B : Nat) (lo0 : Option Addr) (oa : Option Addr) (tn tc : Nat) (ro : Option Addr) (rn rc : Nat) (q : List UInt8) (R : Except Nat (Option (List UInt8 × List (List UInt8) × Nat))) (r : Ending) : Prop :=
  match R with
  | .error n => n ≠ 0 ∧ ∃ st lo ln lc hops, r = .returned (walkV oa tn tc st lo ln lc hops ro rn rc false emp (n : Int))
  | .ok none => ∃ st lo ln lc hops, r = .returned (walkV oa tn tc st lo ln lc hops ro rn rc true (bs q) 0)
  | .ok (some (a, left, hops)) => ∃ lo lc, r = .returned (walkV oa tn tc (bs a) lo left.length lc (hops : Int) ro rn rc false emp 0) ∧ LeftA w' lo lc left ∧ ∀ b, lo = some b → B ≤ b.block ∨ ∃ b0, lo0 = some b0 ∧ b.block = b0.block
theorem LeftA.tailO {w : World} {ad : Addr} {cap : Nat} {x : List UInt8} {L : List (List UInt8)} (h : LeftA w (some ad) cap (x :: L)) : LeftA w (tailO ad cap) (cap - 1) L := by
  have hle := h.le
  simp at hle
  unfold Go.Proofs.YtdkodedocklmdaaGreatDoor.tailO
  by_cases hc : cap = 1
  · rw [if_pos hc]
    obtain rfl : L = [] := List.eq_nil_of_length_eq_zero (by omega)
    exact ⟨by simp, by have := h.max; omega, h.lt, fun i x hx => by simp at hx⟩
  · rw [if_neg hc]
    exact h.tail
theorem below2 (w : World) (o1 o2 : Obj) : Below w.heap.size w ((w.alloc o1).alloc o2) := ((Below.refl _ _).alloc (Nat.le_refl _) _).alloc (by simp) _
theorem tail_cases {w : World} {ad : Addr} {cap : Nat} {x : List UInt8} {L : List (List UInt8)} (h : LeftA w (some ad) cap (x :: L)) : (cap = 1 ∧ L.length = 0 ∧ LeftA w (some ad) 0 L) ∨ (cap ≠ 1 ∧ cap ≠ 1 ∧ LeftA w (some ⟨ad.block, ad.off + 1, none⟩) (cap - 1) L) := by
  have h2 := h.tailO
  by_cases hc : cap = 1
  · subst hc
    exact .inl ⟨rfl, by have := h.le; simp at this; simp [this], h2⟩
  · unfold tailO at h2
    rw [if_neg hc] at h2
    exact .inr ⟨hc, hc, h2⟩
set_option maxRecDepth 100000 in
set_option maxHeartbeats 1000000 in
theorem step_dot (oa lo ro : Option Addr) (tn tc lc rn rc : Nat) (a : List UInt8) (left : List (List UInt8)) (hops : Nat) (s : Int) (w : World) (q : List UInt8) (hl : LeftA w lo lc ([46] :: left)) :
    Calls Tryz.prog 83 #[walkV oa tn tc (bs a) lo ([46] :: left).length lc hops ro rn rc false emp 0, .int .i64 s] w fun r w' => Below w.heap.size w w' ∧ StepRes w' w.heap.size lo oa tn tc ro rn rc q (.ok (some (a, left, hops))) r := by
  unfold walkV
  obtain ⟨ad, rfl, hca⟩ := hl.cell 0 _ rfl
  rw [add_zero, show encS [46] = .string (bs [46]) from rfl] at hca
  obtain ⟨n, hn⟩ : ∃ n, n = left.length := ⟨_, rfl⟩
  have hle := hl.le
  have hmx := hl.max
  have hal := hl.lt ad rfl
  rw [List.length_cons, ← hn] at hle ⊢
  have b1 : ((bs [46]).toList == [46]) = true := eqB_t (by rw [bs_toList])
  have Hn := Lib.hid (show left.length = n from hn.symm)
  rcases tail_cases hl with ⟨hcap, h0, ht⟩ | ⟨hcap, h0, ht⟩
  all_goals
    try subst hcap
    try (rw [← hn] at h0; subst h0)
    have Hl := Lib.hid ht
    clear hl ht; try clear hn; try clear h0
    go_enter Tryz.func83, Tryz.ntmps83
    go_wp2
    exact bodyPost_ret_by (walk_ret rfl rfl (heap_alloc2_new w _ _) rfl) rfl ⟨below2 .., _, _, by rw [Hn.out]; rfl, Hl.out.below (below2 ..) (Nat.le_refl _), fun b hb => .inr ⟨ad, rfl, by injection hb with hb; subst hb; rfl⟩⟩
set_option maxRecDepth 100000 in
set_option maxHeartbeats 1000000 in
theorem step_up (oa lo ro : Option Addr) (tn tc lc rn rc : Nat) (a : List UInt8) (left : List (List UInt8)) (hops : Nat) (s : Int) (w : World) (q : List UInt8) (ha : a.length ≤ 255) (hl : LeftA w lo lc ([46, 46] :: left)) :
    Calls Tryz.prog 83 #[walkV oa tn tc (bs a) lo ([46, 46] :: left).length lc hops ro rn rc false emp 0, .int .i64 s] w fun r w' => Below w.heap.size w w' ∧ StepRes w' w.heap.size lo oa tn tc ro rn rc q (.ok (some (parent a, left, hops))) r := by
  unfold walkV
  obtain ⟨ad, rfl, hca⟩ := hl.cell 0 _ rfl
  rw [add_zero, show encS [46, 46] = .string (bs [46, 46]) from rfl] at hca
  obtain ⟨n, hn⟩ : ∃ n, n = left.length := ⟨_, rfl⟩
  have hle := hl.le
  have hmx := hl.max
  have hal := hl.lt ad rfl
  rw [List.length_cons, ← hn] at hle ⊢
  have b1 : ((bs [46, 46]).toList == [46]) = false := eqB_f (by rw [bs_toList]; decide)
  have b2 : ((bs [46, 46]).toList == [46, 46]) = true := eqB_t (by rw [bs_toList])
  have HP := Lib.hid (fun W => rparent_any (bs a) W (by rw [Lib.size_eq, bs_toList]; omega))
  have Hn := Lib.hid (show left.length = n from hn.symm)
  rcases tail_cases hl with ⟨hcap, h0, ht⟩ | ⟨hcap, h0, ht⟩
  all_goals
    try subst hcap
    try (rw [← hn] at h0; subst h0)
    have Hl := Lib.hid ht
    clear hl ht; try clear hn; try clear h0
    go_enter Tryz.func83, Tryz.ntmps83
    go_wp2_with (go_at_call 48; refine (HP.out _).mono ?_; rintro e w' ⟨rfl, rfl⟩)
    exact bodyPost_ret_by (walk_ret rfl rfl (heap_alloc2_new w _ _) rfl) rfl ⟨below2 .., _, _, by rw [Hn.out]; rfl, Hl.out.below (below2 ..) (Nat.le_refl _), fun b hb => .inr ⟨ad, rfl, by injection hb with hb; subst hb; rfl⟩⟩
end
section
open Go.RowKit Go.Maps Go.Shelf
open Go.Lib hiding intOf size_eq
section
variable {P : Program}
theorem still_load_row {ops : Array Oper} {rest : List Oper} {o : Oper} {a : Act} {w : World} {Q : Act → Prop} (hgd : o.guard = none) (ty : TypeId) (x : Operand) (ho : o.op = .load ty x)
    (g : Nat) (hx : a.eval x = .pointer (some ⟨g, 0, none⟩)) (t : TypeId) (cs : Array Value) (fr : Nat × Nat) (d : TypeDesc) (hg : w.heap[g]? = some (.cells cs t fr))
    (hu : P.underlying ty = some d) (hd : (match d with | .struct _ | .array _ _ => true | _ => false) = true) (hi : (P.info? ty).map (·.size) = some cs.size)
    (h : wpStill P ops w Q rest (a.put o.dst (.agg cs))) : wpStill P ops w Q (o :: rest) a := by
  refine wpStill_step (fun K hK => ?_)
  rw [if_pos (show Region.wanted o (yielded ops a.tmps) = true by simp [Region.wanted, hgd])]
  unfold Oper.still execOp
  simp only [ho, hx, Instr.loadAt, Instr.sureAddr, Sem.run_bind, Sem.run_pure, Result.andThen_ok, run_loadVar_row w g t ty cs fr d hg hu hd hi]
  exact ⟨rfl, hK _ h⟩
theorem still_load_at {ops : Array Oper} {rest : List Oper} {o : Oper} {a : Act} {w : World} {Q : Act → Prop} (hgd : o.guard = none) (ty : TypeId) (x : Operand) (ho : o.op = .load ty x)
    (p : Addr) (hx : a.eval x = .pointer (some p)) (cs : List Value) (d : TypeDesc) (hc : ∀ j v, cs[j]? = some v → w.cell? (p.add j) = some v)
    (hu : P.underlying ty = some d) (hd : (match d with | .struct _ | .array _ _ => true | _ => false) = true) (hi : (P.info? ty).map (·.size) = some cs.length)
    (h : wpStill P ops w Q rest (a.put o.dst (.agg cs.toArray))) : wpStill P ops w Q (o :: rest) a := by
  refine wpStill_step (fun K hK => ?_)
  rw [if_pos (show Region.wanted o (yielded ops a.tmps) = true by simp [Region.wanted, hgd])]
  unfold Oper.still execOp
  simp only [ho, hx, Instr.loadAt, Instr.sureAddr, Sem.run_bind, Sem.run_pure, Result.andThen_ok, run_loadVar_at w p ty cs d hc hu hd hi]
  exact ⟨rfl, hK _ h⟩
/-- a region that only reads and then does one thing after the other: the world behind the draw has a name -/
theorem region_tail_named {id : Nat} {Q : Exit → Act → World → Prop} {a : Act} {w : World} {l : List Oper} (n : Nat) (hm : P.follows .mixedOrders = true) (hB : Region.lexTailB .any l.toArray n = true)
    (h : ∀ wz, wz = w.drew → wpStill P l.toArray wz (fun a' => wpList P l.toArray Q (l.drop n) a' wz) (l.take n) a) : (Code.region id l.toArray true).wp P Q a w := wp_region_still_tail n hm hB (h _ rfl)
theorem below_drew1 {B : Nat} {w W : World} (h : Below B w W) : Below B w W.drew := ⟨h.os, h.tape, h.output, h.size, h.block⟩
end
def sortOf (keep : Bool) : Int := if keep = true then 1 else 0
theorem below_world2 {w : World} {o1 o2 : Obj} {W : World} (h : Below (w.heap.size + 2) ((w.alloc o1).alloc o2) W) : Below w.heap.size w W := (below2 w o1 o2).trans (h.mono (by omega))
set_option maxRecDepth 100000 in
set_option maxHeartbeats 400000 in
theorem step_none (L : List Ent) (oa lo ro : Option Addr) (tc lc rn rc : Nat) (a c : List UInt8) (left : List (List UInt8)) (hops : Nat) (s : Int) (w : World) (hs : s = 0 ∨ s = 1) (hE : EntsAt w (.slice oa L.length tc) L)
    (hlL : L.length ≤ 1099511627776) (hb : ∀ e ∈ L, e.p.size < 4611686018427387904) (ha : a.length ≤ 255) (hc : c.length ≤ 4294967296) (hl : LeftA w lo lc (c :: left)) (c1 : c ≠ [46]) (c2 : c ≠ [46, 46]) (hq : lookE L (joinP a c) = none) :
    Calls Tryz.prog 83 #[walkV oa L.length tc (bs a) lo (c :: left).length lc hops ro rn rc false emp 0, .int .i64 s] w fun r w' => Below w.heap.size w w' ∧ StepRes w' w.heap.size lo oa L.length tc ro rn rc (joinP a c) (.error 10) r := by
  unfold walkV
  obtain ⟨ad, rfl, hca⟩ := hl.cell 0 _ rfl
  rw [add_zero, show encS c = .string (bs c) from rfl] at hca
  obtain ⟨n, hn⟩ : ∃ n, n = left.length := ⟨_, rfl⟩
  obtain ⟨nL, hnL⟩ : ∃ n, n = L.length := ⟨_, rfl⟩
  have hle := hl.le
  have hmx := hl.max
  have hal := hl.lt ad rfl
  rw [List.length_cons, ← hn] at hle ⊢
  have b1 : ((bs c).toList == [46]) = false := eqB_f (by rw [bs_toList]; exact c1)
  have b2 : ((bs c).toList == [46, 46]) = false := eqB_f (by rw [bs_toList]; exact c2)
  have HJ := Lib.hid (fun W => rjoin_any (bs a) (bs c) W (by rw [Lib.size_eq, Lib.size_eq, bs_toList, bs_toList]; omega))
  have hjl : (joinP a c).length ≤ 4294967552 := by
    unfold joinP; split
    · omega
    · simp; omega
  have HA := Lib.hid (fun W (hW : Below w.heap.size w W) => at_any _ L (bs (joinP a c)) W (hE.below hW (Nat.le_refl _)) hlL hb (by rw [Lib.size_eq, bs_toList]; omega))
  rw [bs_toList, atIx_miss hq] at HA
  rw [bs_toList, bs_toList] at HJ
  have HM := Lib.hid (fun st lo ln lc W => missing_any oa lo ro L.length tc ln lc rn rc st emp (bs c) (bs (joinP a c)) hops 0 s false W hs)
  unfold walkV at HM
  rw [← hnL] at HA HM ⊢
  generalize joinP a c = q at *
  have Hn := Lib.hid (show left.length = n from hn.symm)
  clear hE hb hq hs hlL hnL
  rcases tail_cases hl with ⟨hcap, h0, ht⟩ | ⟨hcap, h0, ht⟩
  all_goals
    try subst hcap
    try (rw [← hn] at h0; subst h0)
    clear hl ht; try clear hn; try clear h0
    go_enter Tryz.func83, Tryz.ntmps83
    go_wp2_with (first
      | (go_at_call 118; refine (HJ.out _).mono ?_; rintro e w' ⟨rfl, rfl⟩)
      | (go_at_call 119; refine (HA.out _ (below2 ..)).mono ?_; rintro e w' ⟨rfl, rfl⟩)
      | (go_at_call 120; refine (HM.out _ _ _ _ _).mono ?_; rintro r w2 ⟨hb2, rfl⟩
         have HB2 := Lib.hid ((hb2.block (w.heap.size + 1) (by simp)).trans (heap_alloc2_new w _ _))
         have HL2 := Lib.hid (below_world2 (hb2.mono (by simp)))
         clear hb2)
      | (refine wpList_store_row rfl _ _ _ rfl (w.heap.size + 1) _ rfl rfl 80 _ HB2.out (by kernel_rfl) rfl (by kernel_rfl) ?_))
    exact bodyPost_ret_by (walk_ret rfl rfl (setRow_at HB2.out) rfl) rfl ⟨below_rowSet HL2.out (by omega) _, by decide, _, _, _, _, _, rfl⟩
end
section
open Go.RowKit Go.Maps Go.Shelf
open Go.Lib hiding intOf size_eq
set_option maxRecDepth 100000 in
set_option maxHeartbeats 1000000 in
theorem step_dir (L : List Ent) (e : Ent) (oa lo ro : Option Addr) (tc lc rn rc : Nat) (a c : List UInt8) (left : List (List UInt8)) (hops : Nat) (s : Int) (w : World) (hE : EntsAt w (.slice oa L.length tc) L)
    (hlL : L.length ≤ 1099511627776) (hb : ∀ e ∈ L, e.p.size < 4611686018427387904) (ha : a.length ≤ 255) (hc : c.length ≤ 4294967296) (hl : LeftA w lo lc (c :: left)) (c1 : c ≠ [46]) (c2 : c ≠ [46, 46]) (hq : lookE L (joinP a c) = some e) (hk1 : e.k = 1) :
    Calls Tryz.prog 83 #[walkV oa L.length tc (bs a) lo (c :: left).length lc hops ro rn rc false emp 0, .int .i64 s] w fun r w' => Below w.heap.size w w' ∧ StepRes w' w.heap.size lo oa L.length tc ro rn rc (joinP a c) (.ok (some (joinP a c, left, hops))) r := by
  unfold walkV
  obtain ⟨ad, rfl, hca⟩ := hl.cell 0 _ rfl
  rw [add_zero, show encS c = .string (bs c) from rfl] at hca
  obtain ⟨n, hn⟩ : ∃ n, n = left.length := ⟨_, rfl⟩
  obtain ⟨nL, hnL⟩ : ∃ n, n = L.length := ⟨_, rfl⟩
  have hle := hl.le
  have hmx := hl.max
  have hal := hl.lt ad rfl
  rw [List.length_cons, ← hn] at hle ⊢
  have b1 : ((bs c).toList == [46]) = false := eqB_f (by rw [bs_toList]; exact c1)
  have b2 : ((bs c).toList == [46, 46]) = false := eqB_f (by rw [bs_toList]; exact c2)
  have HJ := Lib.hid (fun W => rjoin_any (bs a) (bs c) W (by rw [Lib.size_eq, Lib.size_eq, bs_toList, bs_toList]; omega))
  have hjl : (joinP a c).length ≤ 4294967552 := by
    unfold joinP; split
    · omega
    · simp; omega
  have HA := Lib.hid (fun W (hW : Below w.heap.size w W) => at_any _ L (bs (joinP a c)) W (hE.below hW (Nat.le_refl _)) hlL hb (by rw [Lib.size_eq, bs_toList]; omega))
  obtain ⟨k, hk, hLk⟩ := atIx_look hq
  rw [bs_toList, hk] at HA
  rw [bs_toList, bs_toList] at HJ
  have hkn : k < nL := by rw [hnL]; exact (List.getElem?_eq_some_iff.1 hLk).1
  have htc : nL ≤ tc ∧ tc ≤ maxLen := by
    obtain ⟨o, cap, hv, h1, h2, _⟩ := hE
    injection hv with h3 h4 h5
    subst h5
    exact ⟨by rw [hnL]; exact h1, h2⟩
  obtain ⟨htc1, htc2⟩ := htc
  obtain ⟨ta, rfl, htl, hcs⟩ : ∃ ta, oa = some ta ∧ ta.block < w.heap.size ∧ ∀ j x, (entC e)[j]? = some x → w.cell? ((ta.add (k * 5)).add j) = some x := by
    obtain ⟨o, cap, hv, h1, h2, h3⟩ := hE
    injection hv with h3' h4 h5
    subst h3'
    exact h3 k e hLk
  have tk : w.cell? ⟨(ta.add (k * 5)).block, (ta.add (k * 5)).off + 1, none⟩ = some (.int .i64 e.k) := hcs 1 _ rfl
  have tl : w.cell? ⟨(ta.add (k * 5)).block, (ta.add (k * 5)).off + 4, none⟩ = some (.string e.l) := hcs 4 _ rfl
  have htl2 : (ta.add (k * 5)).block < w.heap.size := by rw [add_block]; exact htl
  clear hcs
  have k1 : (e.k == 1) = true := by simpa using hk1
  rw [← hnL] at HA ⊢
  generalize joinP a c = q at *
  have Hn := Lib.hid hn.symm
  clear hE hb hq hlL hnL hLk hk c1 c2 htl
  rcases tail_cases hl with ⟨hcap, h0, ht⟩ | ⟨hcap, h0, ht⟩
  all_goals
    try subst hcap
    try (rw [← hn] at h0; subst h0)
    have Hl := Lib.hid ht
    clear hl ht; try clear hn; try clear h0

    go_enter Tryz.func83, Tryz.ntmps83
    go_wp2_with (first
      | (go_at_call 118; refine (HJ.out _).mono ?_; rintro e w' ⟨rfl, rfl⟩)
      | (go_at_call 119; refine (HA.out _ (below2 ..)).mono ?_; rintro e w' ⟨rfl, rfl⟩))
    all_goals exact bodyPost_ret_by (walk_ret rfl rfl (heap_alloc2_new w _ _) rfl) rfl ⟨below2 .., _, _, by rw [Hn.out]; rfl, Hl.out.below (below2 ..) (Nat.le_refl _), fun b hb => .inr ⟨ad, rfl, by injection hb with hb; subst hb; rfl⟩⟩
set_option maxRecDepth 100000 in
set_option maxHeartbeats 1000000 in
theorem step_notdir (L : List Ent) (e : Ent) (oa lo ro : Option Addr) (tc lc rn rc : Nat) (a c : List UInt8) (left : List (List UInt8)) (hops : Nat) (s : Int) (w : World) (hE : EntsAt w (.slice oa L.length tc) L)
    (hlL : L.length ≤ 1099511627776) (hb : ∀ e ∈ L, e.p.size < 4611686018427387904) (ha : a.length ≤ 255) (hc : c.length ≤ 4294967296) (hl : LeftA w lo lc (c :: left)) (c1 : c ≠ [46]) (c2 : c ≠ [46, 46]) (hq : lookE L (joinP a c) = some e) (hk1 : e.k ≠ 1) (hk2 : e.k = 2) (hs : s = 0 ∨ s = 1) (hleft : left ≠ []) :
    Calls Tryz.prog 83 #[walkV oa L.length tc (bs a) lo (c :: left).length lc hops ro rn rc false emp 0, .int .i64 s] w fun r w' => Below w.heap.size w w' ∧ StepRes w' w.heap.size lo oa L.length tc ro rn rc (joinP a c) (.error 13) r := by
  unfold walkV
  obtain ⟨ad, rfl, hca⟩ := hl.cell 0 _ rfl
  rw [add_zero, show encS c = .string (bs c) from rfl] at hca
  obtain ⟨n, hn⟩ : ∃ n, n = left.length := ⟨_, rfl⟩
  obtain ⟨nL, hnL⟩ : ∃ n, n = L.length := ⟨_, rfl⟩
  have hle := hl.le
  have hmx := hl.max
  have hal := hl.lt ad rfl
  rw [List.length_cons, ← hn] at hle ⊢
  have b1 : ((bs c).toList == [46]) = false := eqB_f (by rw [bs_toList]; exact c1)
  have b2 : ((bs c).toList == [46, 46]) = false := eqB_f (by rw [bs_toList]; exact c2)
  have HJ := Lib.hid (fun W => rjoin_any (bs a) (bs c) W (by rw [Lib.size_eq, Lib.size_eq, bs_toList, bs_toList]; omega))
  have hjl : (joinP a c).length ≤ 4294967552 := by
    unfold joinP; split
    · omega
    · simp; omega
  have HA := Lib.hid (fun W (hW : Below w.heap.size w W) => at_any _ L (bs (joinP a c)) W (hE.below hW (Nat.le_refl _)) hlL hb (by rw [Lib.size_eq, bs_toList]; omega))
  obtain ⟨k, hk, hLk⟩ := atIx_look hq
  rw [bs_toList, hk] at HA
  rw [bs_toList, bs_toList] at HJ
  have hkn : k < nL := by rw [hnL]; exact (List.getElem?_eq_some_iff.1 hLk).1
  have htc : nL ≤ tc ∧ tc ≤ maxLen := by
    obtain ⟨o, cap, hv, h1, h2, _⟩ := hE
    injection hv with h3 h4 h5
    subst h5
    exact ⟨by rw [hnL]; exact h1, h2⟩
  obtain ⟨htc1, htc2⟩ := htc
  obtain ⟨ta, rfl, htl, hcs⟩ : ∃ ta, oa = some ta ∧ ta.block < w.heap.size ∧ ∀ j x, (entC e)[j]? = some x → w.cell? ((ta.add (k * 5)).add j) = some x := by
    obtain ⟨o, cap, hv, h1, h2, h3⟩ := hE
    injection hv with h3' h4 h5
    subst h3'
    exact h3 k e hLk
  have tk : w.cell? ⟨(ta.add (k * 5)).block, (ta.add (k * 5)).off + 1, none⟩ = some (.int .i64 e.k) := hcs 1 _ rfl
  have tl : w.cell? ⟨(ta.add (k * 5)).block, (ta.add (k * 5)).off + 4, none⟩ = some (.string e.l) := hcs 4 _ rfl
  have htl2 : (ta.add (k * 5)).block < w.heap.size := by rw [add_block]; exact htl
  clear hcs
  have k1 : (e.k == 1) = false := by simpa using hk1
  have k2 : (e.k == 2) = true := by simpa using hk2
  have n0 : ((n : Int) == 0) = false := by have := List.length_pos_iff.2 hleft; rw [← hn] at this; simp; omega
  have s2 : (s == 2) = false := by simp; omega
  clear hleft hs
  have HM := Lib.hid (fun st lo ln lc W => refused_any (some ta) lo ro nL tc ln lc rn rc st emp hops 0 13 false W)
  unfold walkV at HM
  rw [← hnL] at HA ⊢
  generalize joinP a c = q at *
  have Hn := Lib.hid hn.symm
  clear hE hb hq hlL hnL hLk hk c1 c2 htl
  rcases tail_cases hl with ⟨hcap, h0, ht⟩ | ⟨hcap, h0, ht⟩
  all_goals
    try subst hcap
    try (rw [← hn] at h0; subst h0)
    have Hl := Lib.hid ht
    clear hl ht; try clear hn; try clear h0

    go_enter Tryz.func83, Tryz.ntmps83
    go_wp2_with (first
      | (go_at_call 118; refine (HJ.out _).mono ?_; rintro e w' ⟨rfl, rfl⟩)
      | (go_at_call 119; refine (HA.out _ (below2 ..)).mono ?_; rintro e w' ⟨rfl, rfl⟩)
      | (go_at_call 121; refine (HM.out _ _ _ _ _).mono ?_; rintro r w2 ⟨rfl, hb2⟩
         have HB2 := Lib.hid ((hb2.block (w.heap.size + 1) (by simp)).trans (heap_alloc2_new w _ _))
         have HL2 := Lib.hid (below_world2 (hb2.mono (by simp)))
         clear hb2)
      | (refine wpList_store_row rfl _ _ _ rfl (w.heap.size + 1) _ rfl rfl 80 _ HB2.out (by kernel_rfl) rfl (by kernel_rfl) ?_))
    all_goals exact bodyPost_ret_by (walk_ret rfl rfl (setRow_at HB2.out) rfl) rfl ⟨below_rowSet HL2.out (by omega) _, by decide, _, _, _, _, _, rfl⟩
set_option maxRecDepth 100000 in
set_option maxHeartbeats 1000000 in
theorem step_file (L : List Ent) (e : Ent) (oa lo ro : Option Addr) (tc lc rn rc : Nat) (a c : List UInt8) (left : List (List UInt8)) (hops : Nat) (s : Int) (w : World) (hE : EntsAt w (.slice oa L.length tc) L)
    (hlL : L.length ≤ 1099511627776) (hb : ∀ e ∈ L, e.p.size < 4611686018427387904) (ha : a.length ≤ 255) (hc : c.length ≤ 4294967296) (hl : LeftA w lo lc (c :: left)) (c1 : c ≠ [46]) (c2 : c ≠ [46, 46]) (hq : lookE L (joinP a c) = some e) (hk1 : e.k ≠ 1) (hk2 : e.k = 2) (hs : s = 0 ∨ s = 1) (hleft : left = []) :
    Calls Tryz.prog 83 #[walkV oa L.length tc (bs a) lo (c :: left).length lc hops ro rn rc false emp 0, .int .i64 s] w fun r w' => Below w.heap.size w w' ∧ StepRes w' w.heap.size lo oa L.length tc ro rn rc (joinP a c) (.ok none) r := by
  unfold walkV
  obtain ⟨ad, rfl, hca⟩ := hl.cell 0 _ rfl
  rw [add_zero, show encS c = .string (bs c) from rfl] at hca
  obtain ⟨n, hn⟩ : ∃ n, n = left.length := ⟨_, rfl⟩
  obtain ⟨nL, hnL⟩ : ∃ n, n = L.length := ⟨_, rfl⟩
  have hle := hl.le
  have hmx := hl.max
  have hal := hl.lt ad rfl
  rw [List.length_cons, ← hn] at hle ⊢
  have b1 : ((bs c).toList == [46]) = false := eqB_f (by rw [bs_toList]; exact c1)
  have b2 : ((bs c).toList == [46, 46]) = false := eqB_f (by rw [bs_toList]; exact c2)
  have HJ := Lib.hid (fun W => rjoin_any (bs a) (bs c) W (by rw [Lib.size_eq, Lib.size_eq, bs_toList, bs_toList]; omega))
  have hjl : (joinP a c).length ≤ 4294967552 := by
    unfold joinP; split
    · omega
    · simp; omega
  have HA := Lib.hid (fun W (hW : Below w.heap.size w W) => at_any _ L (bs (joinP a c)) W (hE.below hW (Nat.le_refl _)) hlL hb (by rw [Lib.size_eq, bs_toList]; omega))
  obtain ⟨k, hk, hLk⟩ := atIx_look hq
  rw [bs_toList, hk] at HA
  rw [bs_toList, bs_toList] at HJ
  have hkn : k < nL := by rw [hnL]; exact (List.getElem?_eq_some_iff.1 hLk).1
  have htc : nL ≤ tc ∧ tc ≤ maxLen := by
    obtain ⟨o, cap, hv, h1, h2, _⟩ := hE
    injection hv with h3 h4 h5
    subst h5
    exact ⟨by rw [hnL]; exact h1, h2⟩
  obtain ⟨htc1, htc2⟩ := htc
  obtain ⟨ta, rfl, htl, hcs⟩ : ∃ ta, oa = some ta ∧ ta.block < w.heap.size ∧ ∀ j x, (entC e)[j]? = some x → w.cell? ((ta.add (k * 5)).add j) = some x := by
    obtain ⟨o, cap, hv, h1, h2, h3⟩ := hE
    injection hv with h3' h4 h5
    subst h3'
    exact h3 k e hLk
  have tk : w.cell? ⟨(ta.add (k * 5)).block, (ta.add (k * 5)).off + 1, none⟩ = some (.int .i64 e.k) := hcs 1 _ rfl
  have tl : w.cell? ⟨(ta.add (k * 5)).block, (ta.add (k * 5)).off + 4, none⟩ = some (.string e.l) := hcs 4 _ rfl
  have htl2 : (ta.add (k * 5)).block < w.heap.size := by rw [add_block]; exact htl
  clear hcs
  have k1 : (e.k == 1) = false := by simpa using hk1
  have k2 : (e.k == 2) = true := by simpa using hk2
  obtain rfl : n = 0 := by rw [hn, hleft]; rfl
  have s2 : (s == 2) = false := by simp; omega
  clear hleft hs
  have HM := Lib.hid (fun st lo ln lc W => ended_any (some ta) lo ro nL tc ln lc rn rc st emp (bs (joinP a c)) hops 0 false W)
  unfold walkV at HM
  rw [← hnL] at HA ⊢
  generalize joinP a c = q at *
  have Hn := Lib.hid hn.symm
  clear hE hb hq hlL hnL hLk hk c1 c2 htl
  rcases tail_cases hl with ⟨hcap, h0, ht⟩ | ⟨hcap, h0, ht⟩
  all_goals
    try subst hcap
    try (rw [← hn] at h0; subst h0)
    have Hl := Lib.hid ht
    clear hl ht; try clear hn; try clear h0

    go_enter Tryz.func83, Tryz.ntmps83
    go_wp2_with (first
      | (go_at_call 118; refine (HJ.out _).mono ?_; rintro e w' ⟨rfl, rfl⟩)
      | (go_at_call 119; refine (HA.out _ (below2 ..)).mono ?_; rintro e w' ⟨rfl, rfl⟩)
      | (go_at_call 84; refine (HM.out _ _ _ _ _).mono ?_; rintro r w2 ⟨rfl, hb2⟩
         have HB2 := Lib.hid ((hb2.block (w.heap.size + 1) (by simp)).trans (heap_alloc2_new w _ _))
         have HL2 := Lib.hid (below_world2 (hb2.mono (by simp)))
         clear hb2)
      | (refine wpList_store_row rfl _ _ _ rfl (w.heap.size + 1) _ rfl rfl 80 _ HB2.out (by kernel_rfl) rfl (by kernel_rfl) ?_))
    all_goals exact bodyPost_ret_by (walk_ret rfl rfl (setRow_at HB2.out) rfl) rfl ⟨below_rowSet HL2.out (by omega) _, _, _, _, _, _, rfl⟩
set_option maxRecDepth 100000 in
set_option maxHeartbeats 1000000 in
theorem step_stay (L : List Ent) (e : Ent) (oa lo ro : Option Addr) (tc lc rn rc : Nat) (a c : List UInt8) (left : List (List UInt8)) (hops : Nat) (s : Int) (w : World) (hE : EntsAt w (.slice oa L.length tc) L)
    (hlL : L.length ≤ 1099511627776) (hb : ∀ e ∈ L, e.p.size < 4611686018427387904) (ha : a.length ≤ 255) (hc : c.length ≤ 4294967296) (hl : LeftA w lo lc (c :: left)) (c1 : c ≠ [46]) (c2 : c ≠ [46, 46]) (hq : lookE L (joinP a c) = some e) (hk1 : e.k ≠ 1) (hk2 : e.k ≠ 2) (hs : s = 1) (hleft : left = []) :
    Calls Tryz.prog 83 #[walkV oa L.length tc (bs a) lo (c :: left).length lc hops ro rn rc false emp 0, .int .i64 s] w fun r w' => Below w.heap.size w w' ∧ StepRes w' w.heap.size lo oa L.length tc ro rn rc (joinP a c) (.ok none) r := by
  unfold walkV
  obtain ⟨ad, rfl, hca⟩ := hl.cell 0 _ rfl
  rw [add_zero, show encS c = .string (bs c) from rfl] at hca
  obtain ⟨n, hn⟩ : ∃ n, n = left.length := ⟨_, rfl⟩
  obtain ⟨nL, hnL⟩ : ∃ n, n = L.length := ⟨_, rfl⟩
  have hle := hl.le
  have hmx := hl.max
  have hal := hl.lt ad rfl
  rw [List.length_cons, ← hn] at hle ⊢
  have b1 : ((bs c).toList == [46]) = false := eqB_f (by rw [bs_toList]; exact c1)
  have b2 : ((bs c).toList == [46, 46]) = false := eqB_f (by rw [bs_toList]; exact c2)
  have HJ := Lib.hid (fun W => rjoin_any (bs a) (bs c) W (by rw [Lib.size_eq, Lib.size_eq, bs_toList, bs_toList]; omega))
  have hjl : (joinP a c).length ≤ 4294967552 := by
    unfold joinP; split
    · omega
    · simp; omega
  have HA := Lib.hid (fun W (hW : Below w.heap.size w W) => at_any _ L (bs (joinP a c)) W (hE.below hW (Nat.le_refl _)) hlL hb (by rw [Lib.size_eq, bs_toList]; omega))
  obtain ⟨k, hk, hLk⟩ := atIx_look hq
  rw [bs_toList, hk] at HA
  rw [bs_toList, bs_toList] at HJ
  have hkn : k < nL := by rw [hnL]; exact (List.getElem?_eq_some_iff.1 hLk).1
  have htc : nL ≤ tc ∧ tc ≤ maxLen := by
    obtain ⟨o, cap, hv, h1, h2, _⟩ := hE
    injection hv with h3 h4 h5
    subst h5
    exact ⟨by rw [hnL]; exact h1, h2⟩
  obtain ⟨htc1, htc2⟩ := htc
  obtain ⟨ta, rfl, htl, hcs⟩ : ∃ ta, oa = some ta ∧ ta.block < w.heap.size ∧ ∀ j x, (entC e)[j]? = some x → w.cell? ((ta.add (k * 5)).add j) = some x := by
    obtain ⟨o, cap, hv, h1, h2, h3⟩ := hE
    injection hv with h3' h4 h5
    subst h3'
    exact h3 k e hLk
  have tk : w.cell? ⟨(ta.add (k * 5)).block, (ta.add (k * 5)).off + 1, none⟩ = some (.int .i64 e.k) := hcs 1 _ rfl
  have tl : w.cell? ⟨(ta.add (k * 5)).block, (ta.add (k * 5)).off + 4, none⟩ = some (.string e.l) := hcs 4 _ rfl
  have htl2 : (ta.add (k * 5)).block < w.heap.size := by rw [add_block]; exact htl
  clear hcs
  have k1 : (e.k == 1) = false := by simpa using hk1
  have k2 : (e.k == 2) = false := by simpa using hk2
  obtain rfl : n = 0 := by rw [hn, hleft]; rfl
  subst hs
  clear hleft
  have HM := Lib.hid (fun st lo ln lc W => ended_any (some ta) lo ro nL tc ln lc rn rc st emp (bs (joinP a c)) hops 0 false W)
  unfold walkV at HM
  rw [← hnL] at HA ⊢
  generalize joinP a c = q at *
  have Hn := Lib.hid hn.symm
  clear hE hb hq hlL hnL hLk hk c1 c2 htl
  rcases tail_cases hl with ⟨hcap, h0, ht⟩ | ⟨hcap, h0, ht⟩
  all_goals
    try subst hcap
    try (rw [← hn] at h0; subst h0)
    have Hl := Lib.hid ht
    clear hl ht; try clear hn; try clear h0

    go_enter Tryz.func83, Tryz.ntmps83
    go_wp2_with (first
      | (go_at_call 118; refine (HJ.out _).mono ?_; rintro e w' ⟨rfl, rfl⟩)
      | (go_at_call 119; refine (HA.out _ (below2 ..)).mono ?_; rintro e w' ⟨rfl, rfl⟩)
      | (go_at_call 84; refine (HM.out _ _ _ _ _).mono ?_; rintro r w2 ⟨rfl, hb2⟩
         have HB2 := Lib.hid ((hb2.block (w.heap.size + 1) (by simp)).trans (heap_alloc2_new w _ _))
         have HL2 := Lib.hid (below_world2 (hb2.mono (by simp)))
         clear hb2)
      | (refine wpList_store_row rfl _ _ _ rfl (w.heap.size + 1) _ rfl rfl 80 _ HB2.out (by kernel_rfl) rfl (by kernel_rfl) ?_))
    all_goals exact bodyPost_ret_by (walk_ret rfl rfl (setRow_at HB2.out) rfl) rfl ⟨below_rowSet HL2.out (by omega) _, _, _, _, _, _, rfl⟩
end
section
open Go.RowKit Go.Maps Go.Shelf
open Go.Lib hiding intOf size_eq
theorem linkB_at (a : List UInt8) (e : Ent) : linkB (bs a) e.l = bs (linkAt a e) := by
  unfold linkB linkAt
  by_cases h : e.l.data.toList.head? = some 47
  · rw [if_pos h, if_pos h]; rfl
  · rw [if_neg h, if_neg h]
set_option maxRecDepth 100000 in
set_option maxHeartbeats 1000000 in
theorem step_loop (L : List Ent) (e : Ent) (oa lo ro : Option Addr) (tc lc rn rc : Nat) (a c : List UInt8) (left : List (List UInt8)) (hops : Nat) (s : Int) (w : World) (hE : EntsAt w (.slice oa L.length tc) L)
    (hlL : L.length ≤ 1099511627776) (hb : ∀ e ∈ L, e.p.size < 4611686018427387904) (ha : a.length ≤ 255) (hc : c.length ≤ 4294967296) (hl : LeftA w lo lc (c :: left)) (c1 : c ≠ [46]) (c2 : c ≠ [46, 46]) (hq : lookE L (joinP a c) = some e) (hk1 : e.k ≠ 1) (hk2 : e.k ≠ 2) (hs : s = 0 ∨ s = 1 ∧ left ≠ []) (hl0 : e.l.data.toList ≠ []) (hl1 : e.l.size ≤ 1099511627776) (hll : left.length ≤ 1099511627776) (hh : hops ≤ 40) (h40 : hops = 40) :
    Calls Tryz.prog 83 #[walkV oa L.length tc (bs a) lo (c :: left).length lc hops ro rn rc false emp 0, .int .i64 s] w fun r w' => Below w.heap.size w w' ∧ StepRes w' w.heap.size lo oa L.length tc ro rn rc (joinP a c) (.error 12) r := by
  unfold walkV
  obtain ⟨ad, rfl, hca⟩ := hl.cell 0 _ rfl
  rw [add_zero, show encS c = .string (bs c) from rfl] at hca
  obtain ⟨n, hn⟩ : ∃ n, n = left.length := ⟨_, rfl⟩
  obtain ⟨nL, hnL⟩ : ∃ n, n = L.length := ⟨_, rfl⟩
  have hle := hl.le
  have hmx := hl.max
  have hal := hl.lt ad rfl
  rw [List.length_cons, ← hn] at hle ⊢
  have b1 : ((bs c).toList == [46]) = false := eqB_f (by rw [bs_toList]; exact c1)
  have b2 : ((bs c).toList == [46, 46]) = false := eqB_f (by rw [bs_toList]; exact c2)
  have HJ := Lib.hid (fun W => rjoin_any (bs a) (bs c) W (by rw [Lib.size_eq, Lib.size_eq, bs_toList, bs_toList]; omega))
  have hjl : (joinP a c).length ≤ 4294967552 := by
    unfold joinP; split
    · omega
    · simp; omega
  have HA := Lib.hid (fun W (hW : Below w.heap.size w W) => at_any _ L (bs (joinP a c)) W (hE.below hW (Nat.le_refl _)) hlL hb (by rw [Lib.size_eq, bs_toList]; omega))
  obtain ⟨k, hk, hLk⟩ := atIx_look hq
  rw [bs_toList, hk] at HA
  rw [bs_toList, bs_toList] at HJ
  have hkn : k < nL := by rw [hnL]; exact (List.getElem?_eq_some_iff.1 hLk).1
  have htc : nL ≤ tc ∧ tc ≤ maxLen := by
    obtain ⟨o, cap, hv, h1, h2, _⟩ := hE
    injection hv with h3 h4 h5
    subst h5
    exact ⟨by rw [hnL]; exact h1, h2⟩
  obtain ⟨htc1, htc2⟩ := htc
  obtain ⟨ta, rfl, htl, hcs⟩ : ∃ ta, oa = some ta ∧ ta.block < w.heap.size ∧ ∀ j x, (entC e)[j]? = some x → w.cell? ((ta.add (k * 5)).add j) = some x := by
    obtain ⟨o, cap, hv, h1, h2, h3⟩ := hE
    injection hv with h3' h4 h5
    subst h3'
    exact h3 k e hLk
  have tk : w.cell? ⟨(ta.add (k * 5)).block, (ta.add (k * 5)).off + 1, none⟩ = some (.int .i64 e.k) := hcs 1 _ rfl
  have tl : w.cell? ⟨(ta.add (k * 5)).block, (ta.add (k * 5)).off + 4, none⟩ = some (.string e.l) := hcs 4 _ rfl
  have htl2 : (ta.add (k * 5)).block < w.heap.size := by rw [add_block]; exact htl
  clear hcs
  have k1 : (e.k == 1) = false := by simpa using hk1
  have k2 : (e.k == 2) = false := by simpa using hk2
  have HF := Lib.hid (fun o cap W (hW : LeftA W o cap left) => (followed_any (some ta) o ro nL tc cap rn rc left (bs a) emp e.l hops 0 false W hW hl0 hl1 hll hh).mono (fun _ _ h => (⟨h.1, h.2.1 h40⟩ : _ ∧ _)))
  unfold walkV at HF
  rw [← hn] at HF
  have hs0 : s = 0 ∨ (s = 1 ∧ ((n : Int) == 0) = false) := by
    rcases hs with h | ⟨h, h2⟩
    · exact .inl h
    · refine .inr ⟨h, ?_⟩; have := List.length_pos_iff.2 h2; rw [← hn] at this; simp; omega
  clear hl0 hll hs hl1 h40 hh
  rw [← hnL] at HA ⊢
  generalize joinP a c = q at *
  have Hn := Lib.hid hn.symm
  clear hE hb hq hlL hnL hLk hk c1 c2 htl
  rcases tail_cases hl with ⟨hcap, h0, ht⟩ | ⟨hcap, h0, ht⟩
  all_goals
    try subst hcap
    try (rw [← hn] at h0; subst h0)
    have Hl := Lib.hid ht
    clear hl ht; try clear hn; try clear h0
    rcases hs0 with rfl | ⟨rfl, n0⟩
  all_goals
    go_enter Tryz.func83, Tryz.ntmps83
    go_wp2_with (first
      | (go_at_call 118; refine (HJ.out _).mono ?_; rintro e w' ⟨rfl, rfl⟩)
      | (go_at_call 119; refine (HA.out _ (below2 ..)).mono ?_; rintro e w' ⟨rfl, rfl⟩))
    all_goals
      refine region_tail_named 7 (by kernel_rfl) (by kernel_rfl) ?_
      intro wz hz
      simp only [List.take_succ_cons, List.take_zero, List.drop_succ_cons, List.drop_zero]
      have HBZ := Lib.hid (show wz.heap[w.heap.size]? = some _ from (congrArg (fun (x : World) => x.heap[w.heap.size]?) hz).trans (heap_alloc2_old w _ _))
      have HZZ := Lib.hid (show wz.heap[w.heap.size + 1]? = some _ from (congrArg (fun (x : World) => x.heap[w.heap.size + 1]?) hz).trans (heap_alloc2_new w _ _))
      have hbz : Below w.heap.size w wz := by rw [hz]; exact below_drew1 (below2 ..)
      have hsz : wz.heap.size = w.heap.size + 2 := by rw [hz]; show ((w.alloc _).alloc _).heap.size = _; simp
      have z0 : wz.cell? ⟨w.heap.size, 0, none⟩ = some (.slice (some ta) nL tc) := by unfold World.cell?; rw [HBZ.out]; rfl
      have zl : wz.cell? ⟨(ta.add (k * 5)).block, (ta.add (k * 5)).off + 4, none⟩ = some (.string e.l) := by
        have := hbz.block (ta.add (k * 5)).block htl2
        unfold World.cell? at tl ⊢
        rw [this]; exact tl
      have Hlz := Lib.hid (Hl.out.below hbz (Nat.le_refl _))
      have Hbz := Lib.hid hbz
      clear hz hbz
      refine still_load_row rfl _ _ rfl w.heap.size rfl 80 _ (0, 0) _ HBZ.out Tryz.underlying80 rfl (by kernel_rfl) ?_
      repeat still_step
      refine wpStill_nil ?_
      go_wp2_with (first
        | (go_at_call 122; refine (HF.out _ _ _ Hlz.out).mono ?_; rintro r w2 ⟨hb2, rfl⟩
           have HB2 := Lib.hid ((hb2.block (w.heap.size + 1) (by omega)).trans HZZ.out)
           have HL2 := Lib.hid (Hbz.out.trans (hb2.mono (by omega)))
           clear hb2)
        | (refine wpList_store_row rfl _ _ _ rfl (w.heap.size + 1) _ rfl rfl 80 _ HB2.out (by kernel_rfl) rfl (by kernel_rfl) ?_))
      all_goals exact bodyPost_ret_by (walk_ret rfl rfl (setRow_at HB2.out) rfl) rfl ⟨below_rowSet HL2.out (by omega) _, by decide, _, _, _, _, _, rfl⟩
set_option maxRecDepth 100000 in
set_option maxHeartbeats 1000000 in
theorem step_link (L : List Ent) (e : Ent) (oa lo ro : Option Addr) (tc lc rn rc : Nat) (a c : List UInt8) (left : List (List UInt8)) (hops : Nat) (s : Int) (w : World) (hE : EntsAt w (.slice oa L.length tc) L)
    (hlL : L.length ≤ 1099511627776) (hb : ∀ e ∈ L, e.p.size < 4611686018427387904) (ha : a.length ≤ 255) (hc : c.length ≤ 4294967296) (hl : LeftA w lo lc (c :: left)) (c1 : c ≠ [46]) (c2 : c ≠ [46, 46]) (hq : lookE L (joinP a c) = some e) (hk1 : e.k ≠ 1) (hk2 : e.k ≠ 2) (hs : s = 0 ∨ s = 1 ∧ left ≠ []) (hl0 : e.l.data.toList ≠ []) (hl1 : e.l.size ≤ 1099511627776) (hll : left.length ≤ 1099511627776) (hh : hops ≤ 40) (h40 : hops ≠ 40) :
    Calls Tryz.prog 83 #[walkV oa L.length tc (bs a) lo (c :: left).length lc hops ro rn rc false emp 0, .int .i64 s] w fun r w' => Below w.heap.size w w' ∧ StepRes w' w.heap.size lo oa L.length tc ro rn rc (joinP a c) (.ok (some (linkAt a e, pieces e.l.data.toList ++ left, hops + 1))) r := by
  unfold walkV
  obtain ⟨ad, rfl, hca⟩ := hl.cell 0 _ rfl
  rw [add_zero, show encS c = .string (bs c) from rfl] at hca
  obtain ⟨n, hn⟩ : ∃ n, n = left.length := ⟨_, rfl⟩
  obtain ⟨nL, hnL⟩ : ∃ n, n = L.length := ⟨_, rfl⟩
  have hle := hl.le
  have hmx := hl.max
  have hal := hl.lt ad rfl
  rw [List.length_cons, ← hn] at hle ⊢
  have b1 : ((bs c).toList == [46]) = false := eqB_f (by rw [bs_toList]; exact c1)
  have b2 : ((bs c).toList == [46, 46]) = false := eqB_f (by rw [bs_toList]; exact c2)
  have HJ := Lib.hid (fun W => rjoin_any (bs a) (bs c) W (by rw [Lib.size_eq, Lib.size_eq, bs_toList, bs_toList]; omega))
  have hjl : (joinP a c).length ≤ 4294967552 := by
    unfold joinP; split
    · omega
    · simp; omega
  have HA := Lib.hid (fun W (hW : Below w.heap.size w W) => at_any _ L (bs (joinP a c)) W (hE.below hW (Nat.le_refl _)) hlL hb (by rw [Lib.size_eq, bs_toList]; omega))
  obtain ⟨k, hk, hLk⟩ := atIx_look hq
  rw [bs_toList, hk] at HA
  rw [bs_toList, bs_toList] at HJ
  have hkn : k < nL := by rw [hnL]; exact (List.getElem?_eq_some_iff.1 hLk).1
  have htc : nL ≤ tc ∧ tc ≤ maxLen := by
    obtain ⟨o, cap, hv, h1, h2, _⟩ := hE
    injection hv with h3 h4 h5
    subst h5
    exact ⟨by rw [hnL]; exact h1, h2⟩
  obtain ⟨htc1, htc2⟩ := htc
  obtain ⟨ta, rfl, htl, hcs⟩ : ∃ ta, oa = some ta ∧ ta.block < w.heap.size ∧ ∀ j x, (entC e)[j]? = some x → w.cell? ((ta.add (k * 5)).add j) = some x := by
    obtain ⟨o, cap, hv, h1, h2, h3⟩ := hE
    injection hv with h3' h4 h5
    subst h3'
    exact h3 k e hLk
  have tk : w.cell? ⟨(ta.add (k * 5)).block, (ta.add (k * 5)).off + 1, none⟩ = some (.int .i64 e.k) := hcs 1 _ rfl
  have tl : w.cell? ⟨(ta.add (k * 5)).block, (ta.add (k * 5)).off + 4, none⟩ = some (.string e.l) := hcs 4 _ rfl
  have htl2 : (ta.add (k * 5)).block < w.heap.size := by rw [add_block]; exact htl
  clear hcs
  have k1 : (e.k == 1) = false := by simpa using hk1
  have k2 : (e.k == 2) = false := by simpa using hk2
  have HF := Lib.hid (fun o cap W (hW : LeftA W o cap left) => (followed_any (some ta) o ro nL tc cap rn rc left (bs a) emp e.l hops 0 false W hW hl0 hl1 hll hh).mono (fun _ _ h => (⟨h.1, h.2.2 h40⟩ : _ ∧ _)))
  unfold walkV at HF
  rw [← hn] at HF
  have hs0 : s = 0 ∨ (s = 1 ∧ ((n : Int) == 0) = false) := by
    rcases hs with h | ⟨h, h2⟩
    · exact .inl h
    · refine .inr ⟨h, ?_⟩; have := List.length_pos_iff.2 h2; rw [← hn] at this; simp; omega
  clear hl0 hll hs hl1 h40 hh
  rw [← hnL] at HA ⊢
  generalize joinP a c = q at *
  have Hn := Lib.hid hn.symm
  clear hE hb hq hlL hnL hLk hk c1 c2 htl
  rcases tail_cases hl with ⟨hcap, h0, ht⟩ | ⟨hcap, h0, ht⟩
  all_goals
    try subst hcap
    try (rw [← hn] at h0; subst h0)
    have Hl := Lib.hid ht
    clear hl ht; try clear hn; try clear h0
    rcases hs0 with rfl | ⟨rfl, n0⟩
  all_goals
    go_enter Tryz.func83, Tryz.ntmps83
    go_wp2_with (first
      | (go_at_call 118; refine (HJ.out _).mono ?_; rintro e w' ⟨rfl, rfl⟩)
      | (go_at_call 119; refine (HA.out _ (below2 ..)).mono ?_; rintro e w' ⟨rfl, rfl⟩))
    all_goals
      refine region_tail_named 7 (by kernel_rfl) (by kernel_rfl) ?_
      intro wz hz
      simp only [List.take_succ_cons, List.take_zero, List.drop_succ_cons, List.drop_zero]
      have HBZ := Lib.hid (show wz.heap[w.heap.size]? = some _ from (congrArg (fun (x : World) => x.heap[w.heap.size]?) hz).trans (heap_alloc2_old w _ _))
      have HZZ := Lib.hid (show wz.heap[w.heap.size + 1]? = some _ from (congrArg (fun (x : World) => x.heap[w.heap.size + 1]?) hz).trans (heap_alloc2_new w _ _))
      have hbz : Below w.heap.size w wz := by rw [hz]; exact below_drew1 (below2 ..)
      have hsz : wz.heap.size = w.heap.size + 2 := by rw [hz]; show ((w.alloc _).alloc _).heap.size = _; simp
      have z0 : wz.cell? ⟨w.heap.size, 0, none⟩ = some (.slice (some ta) nL tc) := by unfold World.cell?; rw [HBZ.out]; rfl
      have zl : wz.cell? ⟨(ta.add (k * 5)).block, (ta.add (k * 5)).off + 4, none⟩ = some (.string e.l) := by
        have := hbz.block (ta.add (k * 5)).block htl2
        unfold World.cell? at tl ⊢
        rw [this]; exact tl
      have Hlz := Lib.hid (Hl.out.below hbz (Nat.le_refl _))
      have Hbz := Lib.hid hbz
      clear hz hbz
      refine still_load_row rfl _ _ rfl w.heap.size rfl 80 _ (0, 0) _ HBZ.out Tryz.underlying80 rfl (by kernel_rfl) ?_
      repeat still_step
      refine wpStill_nil ?_
      go_wp2_with (first
        | (go_at_call 122; refine (HF.out _ _ _ Hlz.out).mono ?_; rintro r w2 ⟨hb2, o9, c9, rfl, hla9⟩
           have HB2 := Lib.hid ((hb2.block (w.heap.size + 1) (by omega)).trans HZZ.out)
           have HL2 := Lib.hid (Hbz.out.trans (hb2.mono (by omega)))
           have HLA := Lib.hid hla9
           clear hb2 hla9)
        | (refine wpList_store_row rfl _ _ _ rfl (w.heap.size + 1) _ rfl rfl 80 _ HB2.out (by kernel_rfl) rfl (by kernel_rfl) ?_))
      all_goals exact bodyPost_ret_by (walk_ret rfl rfl (setRow_at HB2.out) rfl) rfl ⟨below_rowSet HL2.out (by omega) _, o9, c9, by rw [linkB_at]; unfold walkV; simp, HLA.out.1.rowSet _ _ (fun b hb e => by have := HLA.out.2 b hb; omega), fun b hb => .inl (by have := HLA.out.2 b hb; omega)⟩
end
section
open Go.RowKit Go.Maps Go.Shelf
open Go.Lib hiding intOf size_eq
/-- one round, plain -/
def stepF (L : List Ent) (keep : Bool) (a c : List UInt8) (left : List (List UInt8)) (hops : Nat) : Except Nat (Option (List UInt8 × List (List UInt8) × Nat)) :=
  if c = [46] then .ok (some (a, left, hops)) else if c = [46, 46] then .ok (some (parent a, left, hops)) else pieceF L keep a (joinP a c) left hops
theorem stepF_run {L : List Ent} (hL : Good L) {keep : Bool} {a c : List UInt8} {left : List (List UInt8)} {hops : Nat} {tr : List (List UInt8)} (h0 : hops ≤ 40) :
    runF L keep (needF (c :: left).length hops) a (c :: left) hops tr = match stepF L keep a c left hops with
      | .error n => .error n
      | .ok none => .ok (joinP a c, tr ++ [joinP a c])
      | .ok (some (a', left', hops')) => runF L keep (needF left'.length hops') a' left' hops' (tr ++ [a']) := by
  unfold stepF
  by_cases h1 : c = [46]
  · subst h1
    rw [if_pos rfl, runF_dot]
  · rw [if_neg h1]
    by_cases h2 : c = [46, 46]
    · subst h2
      rw [if_pos rfl, runF_up]
    · rw [if_neg h2, runF_name hL h0 h1 h2]; cases pieceF L keep a (joinP a c) left hops with
      | error n => rfl
      | ok x => cases x <;> rfl
theorem stepF_on {L : List Ent} (hL : Good L) {keep : Bool} {a c a' : List UInt8} {left left' : List (List UInt8)} {hops hops' N : Nat} (h0 : hops ≤ 40) (ha : a.length ≤ 255) (hN : 100 ≤ N) (hl : ∀ c ∈ left, c.length ≤ N)
    (h : stepF L keep a c left hops = .ok (some (a', left', hops'))) : hops' ≤ 40 ∧ a'.length ≤ 255 ∧ (∀ c ∈ left', c.length ≤ N) ∧ needF left'.length hops' ≤ needF left.length hops := by
  unfold stepF at h
  split at h
  · injection h with h; injection h with h; injection h with h1 h; injection h with h2 h3
    subst h1; subst h2; subst h3
    exact ⟨h0, ha, hl, Nat.le_refl _⟩
  split at h
  · injection h with h; injection h with h; injection h with h1 h; injection h with h2 h3
    subst h1; subst h2; subst h3
    exact ⟨h0, Nat.le_trans (parent_length a) ha, hl, Nat.le_refl _⟩
  exact pieceF_on hL h0 ha hN hl h
theorem step_any (L : List Ent) (hgood : Good L) (keep : Bool) (oa lo ro : Option Addr) (tc lc rn rc : Nat) (a c : List UInt8) (left : List (List UInt8)) (hops : Nat) (w : World) (hE : EntsAt w (.slice oa L.length tc) L)
    (hlL : L.length ≤ 1099511627776) (hb : ∀ e ∈ L, e.p.size < 4611686018427387904) (ha : a.length ≤ 255) (hc : c.length ≤ 4294967296) (hl : LeftA w lo lc (c :: left)) (hll : left.length ≤ 1099511627776) (hh : hops ≤ 40) :
    Calls Tryz.prog 83 #[walkV oa L.length tc (bs a) lo (c :: left).length lc hops ro rn rc false emp 0, .int .i64 (sortOf keep)] w fun r w' => Below w.heap.size w w' ∧ StepRes w' w.heap.size lo oa L.length tc ro rn rc (joinP a c) (stepF L keep a c left hops) r := by
  have hs : sortOf keep = 0 ∨ sortOf keep = 1 := by unfold sortOf; cases keep <;> simp
  unfold stepF
  by_cases c1 : c = [46]
  · subst c1
    rw [if_pos rfl]
    exact step_dot oa lo ro L.length tc lc rn rc a left hops _ w _ hl
  rw [if_neg c1]
  by_cases c2 : c = [46, 46]
  · subst c2
    rw [if_pos rfl]
    exact step_up oa lo ro L.length tc lc rn rc a left hops _ w _ ha hl
  rw [if_neg c2]
  unfold pieceF
  cases hq : lookE L (joinP a c) with
  | none => exact step_none L oa lo ro tc lc rn rc a c left hops _ w hs hE hlL hb ha hc hl c1 c2 hq
  | some e =>
    simp only []
    by_cases k1 : e.k = 1
    · rw [if_pos k1]
      exact step_dir L e oa lo ro tc lc rn rc a c left hops _ w hE hlL hb ha hc hl c1 c2 hq k1
    rw [if_neg k1]
    by_cases k2 : e.k = 2
    · rw [if_pos k2]
      by_cases h3 : left ≠ []
      · rw [if_pos h3]
        exact step_notdir L e oa lo ro tc lc rn rc a c left hops _ w hE hlL hb ha hc hl c1 c2 hq k1 k2 hs h3
      · rw [if_neg h3]
        exact step_file L e oa lo ro tc lc rn rc a c left hops _ w hE hlL hb ha hc hl c1 c2 hq k1 k2 hs (Classical.not_not.1 h3)
    rw [if_neg k2]
    by_cases h3 : keep = true ∧ left = []
    · rw [if_pos h3]
      exact step_stay L e oa lo ro tc lc rn rc a c left hops _ w hE hlL hb ha hc hl c1 c2 hq k1 k2 (by rw [h3.1]; rfl) h3.2
    rw [if_neg h3]
    have hs2 : sortOf keep = 0 ∨ sortOf keep = 1 ∧ left ≠ [] := by
      cases keep with
      | false => exact .inl rfl
      | true => exact .inr ⟨rfl, fun h => h3 ⟨rfl, h⟩⟩
    have hl0 := (link_short hgood hq k1 k2).2
    have hl1 := link_size hgood hq k1 k2
    by_cases h4 : hops = 40
    · rw [if_pos h4]
      exact step_loop L e oa lo ro tc lc rn rc a c left hops _ w hE hlL hb ha hc hl c1 c2 hq k1 k2 hs2 hl0 (by omega) hll hh h4
    · rw [if_neg h4]
      exact step_link L e oa lo ro tc lc rn rc a c left hops _ w hE hlL hb ha hc hl c1 c2 hq k1 k2 hs2 hl0 (by omega) hll hh h4
end
section
open Go.RowKit Go.Maps Go.Shelf
open Go.Lib hiding intOf size_eq
theorem texts_other {W W' : World} {base D : Nat} {v : Value} {L : List (List UInt8)} {cs : Array Value} (h : Texts W base v L) (hd : W.heap[D]? = some (.cells cs 80 (0, 0)))
    (hb : ∀ k, k < W.heap.size → k ≠ D → W'.heap[k]? = W.heap[k]?) : Texts W' base v L := by
  obtain ⟨h1, h2⟩ := h
  refine ⟨h1, ?_⟩
  rcases h2 with h2 | ⟨g, cap, cur, a, b, c, d⟩
  · exact .inl h2
  · refine .inr ⟨g, cap, cur, a, b, ?_, d⟩
    rw [hb g (Array.getElem?_eq_some_iff.1 c).1 (fun e => by
      subst e
      rw [hd] at c
      injection c with c
      injection c with c1 c2 c3
      exact absurd c2 (by decide))]
    exact c
theorem own_other {W : World} {base D : Nat} {v : Value} {L : List (List UInt8)} {cs : Array Value} (h : Texts W base v L) (hd : W.heap[D]? = some (.cells cs 80 (0, 0))) : some D ≠ v.ownBlock := by
  obtain ⟨h1, h2⟩ := h
  rcases h2 with ⟨rfl, _⟩ | ⟨g, cap, cur, rfl, b, c, d⟩
  · simp [Value.ownBlock]
  · intro e
    obtain rfl : D = g := by simpa [Value.ownBlock] using e
    rw [hd] at c
    injection c with c
    injection c with c1 c2 c3
    exact absurd c2 (by decide)
structure GoAt (w wr : World) (D : Nat) (cs : Array Value) (ro : Option Addr) (rc : Nat) (tr : List (List UInt8)) : Prop where
  z : wr.heap[w.heap.size]? = some (.cells walkZ 80 (0, 0))
  d : wr.heap[D]? = some (.cells cs 80 (0, 0))
  ne : w.heap.size < D
  tx : Texts wr (w.heap.size + 1) (.slice ro tr.length rc) tr
  bel : Below w.heap.size w wr
structure LeftOut (wr : World) (R D : Nat) (T : Option Nat) (lo : Option Addr) (lc : Nat) (left : List (List UInt8)) : Prop where
  la : LeftA wr lo lc left
  out : ∀ b, lo = some b → b.block ≠ R ∧ b.block ≠ D ∧ some b.block ≠ T
theorem texts_own_lt {W : World} {base k : Nat} {v : Value} {L : List (List UInt8)} (h : Texts W base v L) (hk : v.ownBlock = some k) : k < W.heap.size ∧ base ≤ k := by
  rcases h.2 with ⟨rfl, _⟩ | ⟨g, cap, cur, rfl, b, c, d⟩
  · simp [Value.ownBlock] at hk
  · obtain rfl : g = k := by simpa [Value.ownBlock] using hk
    exact ⟨(Array.getElem?_eq_some_iff.1 c).1, b⟩
theorem GoAt.step {w wr w2 : World} {D : Nat} {cs : Array Value} {ro : Option Addr} {rc : Nat} {tr : List (List UInt8)} (h : GoAt w wr D cs ro rc tr) (hb : Below wr.heap.size wr w2) (cs' : Array Value) :
    w2.heap[D]? = some (.cells cs 80 (0, 0)) ∧ GoAt w (w2.setRow D cs') D cs' ro rc tr := by
  have hD := heap_lt h.d
  have hR := heap_lt h.z
  have hd2 := (hb.block D hD).trans h.d
  refine ⟨hd2, ⟨(setRow_other _ _ _ _ (by have := h.ne; omega)).trans ((hb.block _ hR).trans h.z), setRow_at hd2, h.ne, ?_, ?_⟩⟩
  · exact texts_other (texts_below_any h.tx hb (Nat.le_refl _)) hd2 (fun k _ hk => setRow_other _ _ _ _ hk)
  · exact below_rowSet (h.bel.trans (hb.mono h.bel.size)) (by have := h.ne; omega) _
theorem LeftOut.step {w wr w2 : World} {D : Nat} {cs : Array Value} {ro : Option Addr} {rc : Nat} {tr : List (List UInt8)} {lo lo' : Option Addr} {lc lc' : Nat} {left left' : List (List UInt8)} (h : LeftOut wr w.heap.size D (Value.slice ro tr.length rc).ownBlock lo lc left)
    (hg : GoAt w wr D cs ro rc tr) (hl : LeftA w2 lo' lc' left')
    (ho : ∀ b, lo' = some b → wr.heap.size ≤ b.block ∨ ∃ b0, lo = some b0 ∧ b.block = b0.block) (cs' : Array Value) : LeftOut (w2.setRow D cs') w.heap.size D (Value.slice ro tr.length rc).ownBlock lo' lc' left' := by
  have hD := heap_lt hg.d
  have hR := heap_lt hg.z
  have hout : ∀ b, lo' = some b → b.block ≠ w.heap.size ∧ b.block ≠ D ∧ some b.block ≠ (Value.slice ro tr.length rc).ownBlock := fun b hb => by
    rcases ho b hb with h1 | ⟨b0, h1, h2⟩
    · exact ⟨by omega, by omega, fun e => by have := (texts_own_lt hg.tx e.symm).1; omega⟩
    · rw [h2]; exact h.out b0 h1
  exact ⟨hl.rowSet _ _ (fun b hb => (hout b hb).2.1), hout⟩
/-- a text is added to the trail -/
theorem GoAt.add {w w3 w4 : World} {D : Nat} {cs : Array Value} {ro : Option Addr} {rc : Nat} {tr : List (List UInt8)} (h : GoAt w w3 D cs ro rc tr) {x : List UInt8} {o : Obj} {v' : Value}
    (hown : w4.ownsRow (w.heap.size + 1) 9 1 v' (tr.length + 1) (tr.map encS ++ [encS x])) (hgr : (w3.alloc o).grownBy w4 (Value.slice ro tr.length rc).ownBlock)
    (hat : v'.ownBlock = (Value.slice ro tr.length rc).ownBlock ∨ v'.ownBlock = some (w3.alloc o).heap.size) :
    ∃ ro' rc', v' = .slice ro' (tr.length + 1) rc' ∧ w4.heap[D]? = some (.cells cs 80 (0, 0)) ∧
      (∀ lo lc left, LeftOut w3 w.heap.size D (Value.slice ro tr.length rc).ownBlock lo lc left → LeftOut (w4.setCell ⟨D, 4, none⟩ (.slice ro' (tr.length + 1) rc')) w.heap.size D (Value.slice ro' (tr ++ [x]).length rc').ownBlock lo lc left) ∧
      GoAt w (w4.setCell ⟨D, 4, none⟩ (.slice ro' (tr.length + 1) rc')) D (cs.setIfInBounds 4 (.slice ro' (tr.length + 1) rc')) ro' rc' (tr ++ [x]) := by
  have hne := h.ne
  have hD := heap_lt h.d
  have hR := heap_lt h.z
  have htx : Texts w4 (w.heap.size + 1) v' (tr ++ [x]) := texts_snoc hown rfl
  have hblk : ∀ k, k < w3.heap.size → (Value.slice ro tr.length rc).ownBlock ≠ some k → w4.heap[k]? = w3.heap[k]? := fun k hk hn =>
    (hgr.block k (by simp; omega) (fun e => hn e.symm)).trans (heap_alloc_old w3 o hk)
  have hd4 : w4.heap[D]? = some (.cells cs 80 (0, 0)) := (hblk D hD (fun e => own_other h.tx h.d e.symm)).trans h.d
  have hz4 : w4.heap[w.heap.size]? = some (.cells walkZ 80 (0, 0)) := (hblk _ hR (fun e => by have := (texts_own_lt h.tx e).2; omega)).trans h.z
  have hb4 : Below w.heap.size w w4 := by
    refine (h.bel.alloc (Nat.le_trans h.bel.size (Nat.le_refl _)) o).grown hgr (by simp; omega) (fun k hk => ?_)
    have := (texts_own_lt h.tx hk).2
    omega
  obtain ⟨ro', rc', e, hla', hlo'⟩ := left_of_texts htx
  rw [List.length_append, List.length_singleton] at e
  subst e
  refine ⟨ro', rc', rfl, hd4, fun lo lc left hl => ?_, ?_⟩
  · have hlt := hl.la.lt
    refine ⟨⟨hl.la.le, hl.la.max, fun b hb => ?_, fun i y hy => ?_⟩, fun b hb => ?_⟩
    · have := hlt b hb
      have := hgr.size
      simp at this ⊢
      omega
    · obtain ⟨b, hb, hc⟩ := hl.la.cell i y hy
      refine ⟨b, hb, ?_⟩
      have h1 := hl.out b hb
      have h2 := hlt b hb
      have h3 : (w4.setCell ⟨D, 4, none⟩ (.slice ro' (tr.length + 1) rc')).heap[(b.add i).block]? = w3.heap[(b.add i).block]? := by
        rw [add_block]
        exact (heap_setCell_other w4 ⟨D, 4, none⟩ _ _ h1.2.1).trans (hblk _ h2 (fun e => h1.2.2 e.symm))
      unfold World.cell? at hc ⊢
      rw [h3]
      exact hc
    · have h1 := hl.out b hb
      refine ⟨h1.1, h1.2.1, ?_⟩
      rw [List.length_append, List.length_singleton]
      rcases hat with e | e
      · rw [e]; exact h1.2.2
      · rw [e]
        have := hlt b hb
        simp
        omega
  · refine ⟨?_, ?_, hne, ?_, ?_⟩
    · exact (heap_setCell_other w4 ⟨D, 4, none⟩ _ _ (by simp only []; omega)).trans hz4
    · exact heap_setCell_same w4 D 4 _ _ _ hd4
    · have := texts_other htx hd4 (fun k _ hk => heap_setCell_other w4 ⟨D, 4, none⟩ k (.slice ro' (tr.length + 1) rc') hk)
      rw [List.length_append, List.length_singleton]
      exact this
    · exact hb4.setCell (p := ⟨D, 4, none⟩) (by simp only []; omega) _
end
section
open Go.RowKit Go.Maps Go.Shelf
open Go.Lib hiding intOf size_eq
/-- what Go answers -/
def GoRes (w' : World) (base : Nat) (oa : Option Addr) (tn tc : Nat) (R : Except Nat (List UInt8 × List (List UInt8))) (r : Ending) : Prop :=
  match R with
  | .error n => n ≠ 0 ∧ r = .returned (walkV oa tn tc emp none 0 0 0 none 0 0 false emp (n : Int))
  | .ok (p, tr) => ∃ st lo ln lc hops ro rc, r = .returned (walkV oa tn tc st lo ln lc hops ro tr.length rc true (bs p) 0) ∧ Texts w' base (.slice ro tr.length rc) tr
/-- the relation of Go's loop -/
def GoI (L : List Ent) (keep : Bool) (w : World) (D : Nat) (oa : Option Addr) (tc : Nat) (R : Except Nat (List UInt8 × List (List UInt8))) (wr : World) : Prop :=
  ∃ a left hops tr lo lc ro rc, GoAt w wr D (walkC oa L.length tc (bs a) lo left.length lc (hops : Nat) ro tr.length rc false emp 0) ro rc tr ∧ LeftOut wr w.heap.size D (Value.slice ro tr.length rc).ownBlock lo lc left ∧
    a.length ≤ 255 ∧ (∀ c ∈ left, c.length ≤ 4294967296) ∧ hops ≤ 40 ∧ tr.length + needF left.length hops ≤ 1099511627776 ∧ runF L keep (needF left.length hops) a left hops tr = R
def goMeas (D : Nat) (w : World) : Nat := match w.cell? ⟨D, 2, none⟩, w.cell? ⟨D, 3, none⟩ with
  | some (.slice _ n _), some (.int _ h) => needF n h.toNat
  | _, _ => 0
theorem goMeas_eq {w wr : World} {D : Nat} {oa ro lo : Option Addr} {tn tc rc ln lc rn : Nat} {a an : ByteArray} {hops : Nat} {dn : Bool} {no : Int} {tr : List (List UInt8)} (h : GoAt w wr D (walkC oa tn tc a lo ln lc (hops : Nat) ro rn rc dn an no) ro rc tr) : goMeas D wr = needF ln hops := by
  unfold goMeas World.cell?
  rw [h.d]
  simp [walkC]
theorem cell_of_row {W : World} {D i : Nat} {cs : Array Value} {t : TypeId} {v : Value} (h : W.heap[D]? = some (.cells cs t (0, 0))) (hi : cs[i]? = some v) : W.cell? ⟨D, i, none⟩ = some v := by
  unfold World.cell?
  rw [h]
  exact hi
theorem frozen_of_row {W : World} {D i : Nat} {cs : Array Value} {t : TypeId} (h : W.heap[D]? = some (.cells cs t (0, 0))) : W.frozen? ⟨D, i, none⟩ = false := by
  unfold World.frozen?
  rw [h]
  simp
set_option maxRecDepth 100000 in
set_option maxHeartbeats 2000000 in
theorem go_any (L : List Ent) (hgood : Good L) (keep : Bool) (oa : Option Addr) (tc : Nat) (s : ByteArray) (w : World) (hE : EntsAt w (.slice oa L.length tc) L) (hlL : L.length ≤ 1099511627776) (hb : ∀ e ∈ L, e.p.size < 4611686018427387904) (hs : s.size ≤ 4294967296) :
    Calls Tryz.prog 41 #[.slice oa L.length tc, .string s, .int .i64 (sortOf keep)] w fun r w' => Below w.heap.size w w' ∧ GoRes w' w.heap.size oa L.length tc (wayF L keep s.data.toList) r := by
  obtain ⟨i0, hi, hz0, hz1, hz2⟩ := info_parts Tryz.infoString
  have Hi := Lib.hid hi
  have Hz0 := Lib.hid hz0
  have Hz1 := Lib.hid hz1
  have Hz2 := Lib.hid hz2
  clear hi hz0 hz1 hz2
  have HP := Lib.hid (fun W => rpieces_any s W (by omega))
  have Hgood := Lib.hid hgood
  have HE := Lib.hid hE
  have HlL := Lib.hid hlL
  have Hb := Lib.hid hb
  obtain ⟨nL, hnL⟩ : ∃ n, n = L.length := ⟨_, rfl⟩
  have HnL := Lib.hid hnL
  obtain ⟨so, hso⟩ : ∃ x, x = sortOf keep := ⟨_, rfl⟩
  have Hso := Lib.hid hso
  rw [← hnL, ← hso]
  clear hgood hE hlL hb hnL hso
  go_enter Tryz.func41, Tryz.ntmps41
  go_wp2_with (go_at_call 82; refine (HP.out _).mono ?_; rintro r w1 ⟨v, rfl, htx, hb1⟩; obtain ⟨lo, lc, rfl, hla, hlo⟩ := left_of_texts htx; generalize hn0 : (pieces s.data.toList).length = n0; have Htx := Lib.hid htx; have Hla := Lib.hid hla; have Hlo := Lib.hid hlo; have Hb1 := Lib.hid hb1; have Hn0 := Lib.hid hn0; clear htx hla hlo hb1 hn0)
  have hs1 : w.heap.size + 1 ≤ w1.heap.size := by have := Hb1.out.size; simpa using this
  go_loopw [8] (fun _ wr => GoI L keep w (w1.heap.size + 1) oa tc (wayF L keep s.data.toList) wr) (fun _ wr => goMeas (w1.heap.size + 1) wr)
  case atStart =>
    have hz1 : w1.heap[w.heap.size]? = some (.cells walkZ 80 (0, 0)) := (Hb1.out.block _ (by simp)).trans (heap_alloc_new w _)
    have hbw : Below w.heap.size w w1 := (((Below.refl w.heap.size w).alloc (Nat.le_refl _) _)).trans (Hb1.out.mono (by simp))
    have hll := pieces_half s.data.toList.length s.data.toList (Nat.le_refl _)
    rw [← Lib.size_eq] at hll
    refine ⟨[], pieces s.data.toList, 0, [[]], lo, lc, some ⟨w1.heap.size, 0, none⟩, 1, ⟨?_, ?_, by omega, ?_, ?_⟩, ⟨?_, ?_⟩, by simp, fun c hc => ?_, by omega, ?_, rfl⟩
    · exact (((below2 w1 _ _).block _ (by omega)).trans hz1)
    · rw [← HnL.out, Hn0.out]; exact heap_alloc2_new w1 _ _
    · exact ⟨rfl, .inr ⟨w1.heap.size, 1, #[.string ⟨#[]⟩], rfl, by omega, heap_alloc2_old w1 _ _, by simp, by unfold maxLen; omega, rfl, rfl⟩⟩
    · exact hbw.trans ((below2 w1 _ _).mono (by omega))
    · exact Hla.out.below (below2 w1 _ _) (Nat.le_refl _)
    · intro b hb
      have h1 := Hlo.out b hb
      have h2 := Hla.out.lt b hb
      simp at h1
      refine ⟨by omega, by omega, fun e => ?_⟩
      simp [Value.ownBlock] at e
      omega
    · have := pieces_long hc
      rw [← Lib.size_eq] at this
      omega
    · unfold needF
      simp
      omega
  case round =>
    obtain ⟨a, left, hops, tr, lo', lc', ro, rc, hG, hL, ha, hl, hh, hN, hR⟩ := hrel
    have hsz := heap_lt hG.d
    cases left with
    | nil =>
      have HG := Lib.hid hG
      have HR := Lib.hid (hR.symm.trans runF_nil)
      have hd := hG.d
      unfold walkC at hd
      rw [← HnL.out] at hd
      have z1 := cell_of_row hd (i := 1) rfl
      have z2 := cell_of_row hd (i := 2) rfl
      have HD := Lib.hid hd
      have HZ := Lib.hid hG.z
      have HN := Lib.hid hN
      clear hG hL hR hd hN hl
      obtain ⟨m, hm⟩ : ∃ m, m = tr.length := ⟨_, rfl⟩
      rw [← hm] at HD
      have Hm := Lib.hid hm
      clear hm
      go_wp2_with (first
        | (refine wpList_load_row rfl _ _ rfl (w1.heap.size + 1) rfl 80 _ (0, 0) _ HD.out Tryz.underlying80 rfl (by kernel_rfl) ?_)
        | (go_at_call 84; refine (ended_any _ _ _ _ _ _ _ _ _ _ _ _ _ _ _ _).mono ?_; rintro r w2 ⟨rfl, hb2⟩
           have HZ2 := Lib.hid ((hb2.block _ (heap_lt HZ.out)).trans HZ.out)
           have HT2 := Lib.hid (texts_below_any HG.out.tx hb2 (Nat.le_refl _))
           have HB2 := Lib.hid (HG.out.bel.trans (hb2.mono HG.out.bel.size))
           clear hb2
           unfold walkV)
        | (refine wpList_store_row rfl _ _ _ rfl w.heap.size _ rfl rfl 80 _ HZ2.out (by kernel_rfl) rfl (by kernel_rfl) ?_))
      refine bodyPost_ret_by (walk_ret rfl rfl (setRow_at HZ2.out) rfl) rfl ⟨below_rowSet HB2.out (Nat.le_refl _) _, ?_⟩
      rw [HR.out]
      refine ⟨_, _, _, _, _, ro, rc, by rw [← Hm.out]; rfl, ?_⟩
      exact texts_mono (texts_other HT2.out HZ2.out (fun k _ hk => setRow_other _ _ _ _ hk)) (by omega)
    | cons c left =>
      have hc := hl c (List.mem_cons_self ..)
      have hl2 : ∀ x ∈ left, x.length ≤ 4294967296 := fun x hx => hl x (List.mem_cons_of_mem _ hx)
      have hR2 := stepF_run Hgood.out (keep := keep) (a := a) (c := c) (left := left) (tr := tr) hh
      rw [needF_cons] at hN
      have hnd := needF_ge left.length hops
      have HS := Lib.hid (step_any L Hgood.out keep oa lo' ro tc lc' tr.length rc a c left hops wr (HE.out.below hG.bel (Nat.le_refl _)) HlL.out Hb.out ha hc hL.la (by omega) hh)
      have hmeas := goMeas_eq hG
      rw [needF_cons] at hmeas
      have hd := hG.d
      unfold walkC at hd
      rw [← HnL.out, ← Hso.out] at HS
      rw [← HnL.out] at hd
      unfold walkV at HS
      obtain ⟨n, hn⟩ : ∃ n, n = (c :: left).length := ⟨_, rfl⟩
      obtain ⟨m, hm⟩ : ∃ m, m = tr.length := ⟨_, rfl⟩
      rw [← hn, ← hm] at HS hd
      have hn0 : 0 < n := by rw [hn]; simp
      have z2 := cell_of_row hd (i := 2) rfl
      have HD := Lib.hid hd
      have HG := Lib.hid hG
      have HL := Lib.hid hL
      have Hm := Lib.hid hm
      have HN := Lib.hid hN
      have Hl2 := Lib.hid hl2
      have HR := Lib.hid (hR.symm.trans hR2)
      have Hmeas := Lib.hid hmeas
      have Hnd := Lib.hid hnd
      have Ha := Lib.hid ha
      have Hh := Lib.hid hh
      clear hG hL hR hR2 hd hN hl hl2 hc hm hn hmeas hnd ha hh
      cases hst : stepF L keep a c left hops with
      | error N =>
        rw [hst] at HS HR
        clear hst
        go_wp2_with (first
          | (refine wpList_load_row rfl _ _ rfl (w1.heap.size + 1) rfl 80 _ (0, 0) _ HD.out Tryz.underlying80 rfl (by kernel_rfl) ?_)
          | (go_at_call 83; refine HS.out.mono ?_; rintro r w2 ⟨hb2, hN0, st2, lo2, ln2, lc2, hops2, rfl⟩
             have HD2 := Lib.hid (HG.out.step hb2 #[]).1
             have hg3 := (HG.out.step hb2 (walkC oa nL tc st2 lo2 ln2 lc2 hops2 ro m rc false emp (N : Int))).2
             obtain ⟨w3, hw3⟩ : ∃ x, x = w2.setRow (w1.heap.size + 1) (walkC oa nL tc st2 lo2 ln2 lc2 hops2 ro m rc false emp (N : Int)) := ⟨_, rfl⟩
             rw [← hw3] at hg3
             have hd3 := hg3.d
             have HG3 := Lib.hid hg3
             have HZ3 := Lib.hid hg3.z
             have HT3 := Lib.hid (show Texts w3 (w.heap.size + 1) (.slice ro m rc) tr by have := hg3.tx; rw [← Hm.out] at this; exact this)
             have hs3 : w1.heap.size + 1 < w3.heap.size := heap_lt hg3.d
             unfold walkC at hw3 hd3
             have HW3 := Lib.hid hw3
             have b7 : ((N : Int) == 0) = false := by simp; omega
             have z7 := cell_of_row hd3 (i := 7) rfl
             clear hb2 hg3 hw3 hd3 HS
             unfold walkV)
          | (refine wpList_store_row rfl _ _ _ rfl (w1.heap.size + 1) _ rfl rfl 80 _ HD2.out (by kernel_rfl) rfl (by kernel_rfl) ?_; rw [← HW3.out])
          | (refine wpList_store_row rfl _ _ _ rfl w.heap.size _ rfl rfl 80 _ HZ3.out (by kernel_rfl) rfl (by kernel_rfl) ?_))
        refine bodyPost_ret_by (walk_ret rfl rfl (setRow_at HZ3.out) rfl) rfl ⟨below_rowSet HG3.out.bel (Nat.le_refl _) _, ?_⟩
        rw [HR.out]
        exact ⟨hN0, rfl⟩
      | ok x => cases x with
        | none =>
          rw [hst] at HS HR
          clear hst
          go_wp2_with (first
          | (refine wpList_load_row rfl _ _ rfl (w1.heap.size + 1) rfl 80 _ (0, 0) _ HD.out Tryz.underlying80 rfl (by kernel_rfl) ?_)
          | (go_at_call 83; refine HS.out.mono ?_; rintro r w2 ⟨hb2, st2, lo2, ln2, lc2, hops2, rfl⟩
             have HD2 := Lib.hid (HG.out.step hb2 #[]).1
             have hg3 := (HG.out.step hb2 (walkC oa nL tc st2 lo2 ln2 lc2 hops2 ro m rc true (bs (joinP a c)) 0)).2
             obtain ⟨w3, hw3⟩ : ∃ x, x = w2.setRow (w1.heap.size + 1) (walkC oa nL tc st2 lo2 ln2 lc2 hops2 ro m rc true (bs (joinP a c)) 0) := ⟨_, rfl⟩
             rw [← hw3] at hg3
             have hd3 := hg3.d
             have HG3 := Lib.hid hg3
             have HZ3 := Lib.hid hg3.z
             have HT3 := Lib.hid (show Texts w3 (w.heap.size + 1) (.slice ro m rc) tr by have := hg3.tx; rw [← Hm.out] at this; exact this)
             have hs3 : w1.heap.size + 1 < w3.heap.size := heap_lt hg3.d
             unfold walkC at hw3 hd3
             have HW3 := Lib.hid hw3
             have z1 := cell_of_row hd3 (i := 1) rfl
             have z4 := cell_of_row hd3 (i := 4) rfl
             have z5 := cell_of_row hd3 (i := 5) rfl
             have z6 := cell_of_row hd3 (i := 6) rfl
             have z7 := cell_of_row hd3 (i := 7) rfl
             clear hb2 hg3 hw3 hd3 HS
             unfold walkV)
          | (refine wpList_store_row rfl _ _ _ rfl (w1.heap.size + 1) _ rfl rfl 80 _ HD2.out (by kernel_rfl) rfl (by kernel_rfl) ?_; rw [← HW3.out])
          | (at_builtin; refine wpList_append_own_at _ rfl _ _ 70 rfl (w.heap.size + 1) 9 i0 (.string ⟨#[]⟩) 1 16 Tryz.underlying70 Hi.out Hz0.out Hz1.out Hz2.out rfl (by decide) _ _ _ rfl (HT3.out.alloc _) ⟨w3.heap.size, 0, none⟩ 1 1 [.string (bs (joinP a c))] rfl rfl (cell_one_new _ _ _) (by simp [Value.oneCell']) (by have := HN.out; unfold maxLen; omega) (by have := HN.out; omega) (by simp; omega) ?_
             intro v' w4 hown hgr _ hat
             rw [Hm.out] at hgr hat
             obtain ⟨ro', rc', rfl, hd4, hlft, hg5⟩ := HG3.out.add (x := (joinP a c)) hown hgr hat
             rw [← Hm.out] at hlft hg5 ⊢
             unfold walkC at hd4
             have y4 := cell_of_row hd4 (i := 4) rfl
             have f4 := frozen_of_row hd4 (i := 4)
             have y5 := cell_of_row hd4 (i := 5) rfl
             have hd5 := hg5.d
             rw [show (walkC oa nL tc st2 lo2 ln2 lc2 hops2 ro m rc true (bs (joinP a c)) 0).setIfInBounds 4 (.slice ro' (m + 1) rc') = walkC oa nL tc st2 lo2 ln2 lc2 hops2 ro' (m + 1) rc' true (bs (joinP a c)) 0 from rfl] at hd5
             unfold walkC at hd5
             have u5 := cell_of_row hd5 (i := 5) rfl
             have HD5 := Lib.hid hd5
             have HZ5 := Lib.hid hg5.z
             have HG5 := Lib.hid hg5
             have HL5 := Lib.hid hlft
             clear hown hgr hat hd4 hd5 hg5 hlft HG3 HD2 HW3)
          | (refine wpList_load_row rfl _ _ rfl (w1.heap.size + 1) rfl 80 _ (0, 0) _ HD5.out Tryz.underlying80 rfl (by kernel_rfl) ?_)
          | (refine wpList_store_row rfl _ _ _ rfl w.heap.size _ rfl rfl 80 _ HZ5.out (by kernel_rfl) rfl (by kernel_rfl) ?_))
          refine bodyPost_ret_by (walk_ret rfl rfl (setRow_at HZ5.out) rfl) rfl ⟨below_rowSet HG5.out.bel (Nat.le_refl _) _, ?_⟩
          rw [HR.out]
          refine ⟨_, _, _, _, _, ro', rc', by rw [List.length_append, List.length_singleton, ← Hm.out]; rfl, ?_⟩
          have ht5 := HG5.out.tx
          exact texts_mono (texts_other ht5 HZ5.out (fun k _ hk => setRow_other _ _ _ _ hk)) (by omega)
        | some x =>
          obtain ⟨a', left', hops'⟩ := x
          rw [hst] at HS HR
          have Hst := Lib.hid hst
          clear hst
          go_wp2_with (first
          | (refine wpList_load_row rfl _ _ rfl (w1.heap.size + 1) rfl 80 _ (0, 0) _ HD.out Tryz.underlying80 rfl (by kernel_rfl) ?_)
          | (go_at_call 83; refine HS.out.mono ?_; rintro r w2 ⟨hb2, lo2, lc2, rfl, hla2, hcl⟩
             have HD2 := Lib.hid (HG.out.step hb2 #[]).1
             have hg3 := (HG.out.step hb2 (walkC oa nL tc (bs a') lo2 left'.length lc2 (hops' : Nat) ro m rc false emp 0)).2
             obtain ⟨w3, hw3⟩ : ∃ x, x = w2.setRow (w1.heap.size + 1) (walkC oa nL tc (bs a') lo2 left'.length lc2 (hops' : Nat) ro m rc false emp 0) := ⟨_, rfl⟩
             rw [← hw3] at hg3
             have hd3 := hg3.d
             have HG3 := Lib.hid hg3
             have HZ3 := Lib.hid hg3.z
             have HT3 := Lib.hid (show Texts w3 (w.heap.size + 1) (.slice ro m rc) tr by have := hg3.tx; rw [← Hm.out] at this; exact this)
             have hs3 : w1.heap.size + 1 < w3.heap.size := heap_lt hg3.d
             unfold walkC at hw3 hd3
             have HW3 := Lib.hid hw3
             have HLS := Lib.hid (show LeftOut w3 w.heap.size (w1.heap.size + 1) (Value.slice ro m rc).ownBlock lo2 lc2 left' from by rw [Hm.out, hw3]; exact HL.out.step HG.out hla2 hcl _)
             have z1 := cell_of_row hd3 (i := 1) rfl
             have z4 := cell_of_row hd3 (i := 4) rfl
             have z5 := cell_of_row hd3 (i := 5) rfl
             have z6 := cell_of_row hd3 (i := 6) rfl
             have z7 := cell_of_row hd3 (i := 7) rfl
             clear hb2 hg3 hw3 hd3 HS hla2 hcl
             unfold walkV)
          | (refine wpList_store_row rfl _ _ _ rfl (w1.heap.size + 1) _ rfl rfl 80 _ HD2.out (by kernel_rfl) rfl (by kernel_rfl) ?_; rw [← HW3.out])
          | (at_builtin; refine wpList_append_own_at _ rfl _ _ 70 rfl (w.heap.size + 1) 9 i0 (.string ⟨#[]⟩) 1 16 Tryz.underlying70 Hi.out Hz0.out Hz1.out Hz2.out rfl (by decide) _ _ _ rfl (HT3.out.alloc _) ⟨w3.heap.size, 0, none⟩ 1 1 [.string (bs a')] rfl rfl (cell_one_new _ _ _) (by simp [Value.oneCell']) (by have := HN.out; unfold maxLen; omega) (by have := HN.out; omega) (by simp; omega) ?_
             intro v' w4 hown hgr _ hat
             rw [Hm.out] at hgr hat
             obtain ⟨ro', rc', rfl, hd4, hlft, hg5⟩ := HG3.out.add (x := a') hown hgr hat
             rw [← Hm.out] at hlft hg5 ⊢
             unfold walkC at hd4
             have y4 := cell_of_row hd4 (i := 4) rfl
             have f4 := frozen_of_row hd4 (i := 4)
             have y5 := cell_of_row hd4 (i := 5) rfl
             have hd5 := hg5.d
             rw [show (walkC oa nL tc (bs a') lo2 left'.length lc2 (hops' : Nat) ro m rc false emp 0).setIfInBounds 4 (.slice ro' (m + 1) rc') = walkC oa nL tc (bs a') lo2 left'.length lc2 (hops' : Nat) ro' (m + 1) rc' false emp 0 from rfl] at hd5
             unfold walkC at hd5
             have u5 := cell_of_row hd5 (i := 5) rfl
             have HD5 := Lib.hid hd5
             have HZ5 := Lib.hid hg5.z
             have HG5 := Lib.hid hg5
             have HL5 := Lib.hid hlft
             clear hown hgr hat hd4 hd5 hg5 hlft HG3 HD2 HW3)
          | (refine wpList_load_row rfl _ _ rfl (w1.heap.size + 1) rfl 80 _ (0, 0) _ HD5.out Tryz.underlying80 rfl (by kernel_rfl) ?_)
          | (refine wpList_store_row rfl _ _ _ rfl w.heap.size _ rfl rfl 80 _ HZ5.out (by kernel_rfl) rfl (by kernel_rfl) ?_))

          have hg6 : GoAt w (w4.setCell ⟨w1.heap.size + 1, 4, none⟩ (.slice ro' (m + 1) rc')) (w1.heap.size + 1) (walkC oa nL tc (bs a') lo2 left'.length lc2 (hops' : Nat) ro' (tr ++ [a']).length rc' false emp 0) ro' rc' (tr ++ [a']) := by
            have := HG5.out
            rw [List.length_append, List.length_singleton, ← Hm.out]
            exact this
          have HG6 := Lib.hid hg6
          have Hon := Lib.hid (stepF_on Hgood.out Hh.out Ha.out (N := 4294967296) (by omega) Hl2.out Hst.out)
          clear hg6
          go_roundw
          case rel =>
            obtain ⟨h1, h2, h3, h4⟩ := Hon.out
            refine ⟨a', left', hops', tr ++ [a'], lo2, lc2, ro', rc', by rw [← HnL.out]; exact HG6.out, HL5.out _ _ _ HLS.out, h2, h3, h1, ?_, HR.out.symm⟩
            have := HN.out
            rw [List.length_append, List.length_singleton]
            omega
          case measure =>
            have h4 := Hon.out.2.2.2
            have := goMeas_eq HG6.out
            have := Hmeas.out
            omega
end
section
open Go.RowKit Go.Maps Go.Shelf
open Go.Lib hiding intOf size_eq
/-- what Find answers, and its error -/
def findB (R : Except Nat (List UInt8 × List (List UInt8))) : ByteArray := match R with
  | .error _ => emp
  | .ok (p, _) => bs p
def findN (R : Except Nat (List UInt8 × List (List UInt8))) : Nat := match R with
  | .error n => n
  | .ok _ => 0
theorem goRes_find {w' : World} {base : Nat} {oa : Option Addr} {tn tc : Nat} {R : Except Nat (List UInt8 × List (List UInt8))} {r : Ending} (h : GoRes w' base oa tn tc R r) :
    ∃ oa tn tc st lo ln lc hops ro rn rc dn, r = .returned (walkV oa tn tc st lo ln lc hops ro rn rc dn (findB R) (findN R)) ∧ (∀ p tr, R = .ok (p, tr) → rn = tr.length ∧ Texts w' base (.slice ro rn rc) tr) ∧ ((∃ n, R = .error n) → ro = none ∧ rn = 0 ∧ rc = 0) := by
  unfold GoRes at h
  cases R with
  | error n =>
    obtain ⟨_, rfl⟩ := h
    exact ⟨_, _, _, _, _, _, _, _, _, _, _, _, rfl, (fun p tr e => by cases e), (fun _ => ⟨rfl, rfl, rfl⟩)⟩
  | ok x =>
    obtain ⟨p, tr⟩ := x
    obtain ⟨st, lo, ln, lc, hops, ro, rc, rfl, ht⟩ := h
    exact ⟨_, _, _, _, _, _, _, _, _, _, _, _, rfl, (fun p2 tr2 e => by injection e with e; injection e with e1 e2; subst e1; subst e2; exact ⟨rfl, ht⟩), (fun ⟨n, e⟩ => by cases e)⟩
set_option maxRecDepth 100000 in
set_option maxHeartbeats 1000000 in
theorem rfind_any (L : List Ent) (hgood : Good L) (last : Bool) (v : Value) (s : ByteArray) (w : World) (hE : EntsAt w v L) (hlL : L.length ≤ 1099511627776) (hb : ∀ e ∈ L, e.p.size < 4611686018427387904) (hs : s.size ≤ 4294967296) :
    Calls Tryz.prog 34 #[v, .string s, .bool last] w fun r w' => Below w.heap.size w w' ∧ r = .returned (.tuple #[.string (findB (wayF L (!last) s.data.toList)), .int .i64 (findN (wayF L (!last) s.data.toList))]) := by
  obtain ⟨o, cap, rfl, h1, h2, h3⟩ := hE
  have HS := Lib.hid ((go_any L hgood (!last) o cap s w ⟨o, cap, rfl, h1, h2, h3⟩ hlL hb hs).mono (fun _ _ h => (⟨h.1, goRes_find h.2⟩ : _ ∧ _)))
  obtain ⟨n, hn⟩ : ∃ n, n = L.length := ⟨_, rfl⟩
  rw [← hn] at HS ⊢
  have hso : sortOf (!last) = if last = true then 0 else 1 := by cases last <;> rfl
  rw [hso] at HS
  generalize findB (wayF L (!last) s.data.toList) = fb at *
  generalize findN (wayF L (!last) s.data.toList) = fn at *
  clear hn h1 h2 h3 hlL hb hso
  cases last
  all_goals
    go_enter Tryz.func34, Tryz.ntmps34
    go_wp2_with (go_at_call 41; refine HS.out.mono ?_; rintro r w2 ⟨hb2, oa, tn, tc, st, lo, ln, lc, hops, ro, rn, rc, dn, rfl, _, _⟩; have HB2 := Lib.hid hb2; clear hb2; unfold walkV)
    go_quiet (fail)
    go_wp2
    go_ret2
    exact ⟨below_drewN (HB2.out.alloc HB2.out.size _) _, rfl⟩
set_option maxRecDepth 100000 in
set_option maxHeartbeats 1000000 in
theorem rtrail_any (L : List Ent) (hgood : Good L) (v : Value) (s : ByteArray) (w : World) (hE : EntsAt w v L) (hlL : L.length ≤ 1099511627776) (hb : ∀ e ∈ L, e.p.size < 4611686018427387904) (hs : s.size ≤ 4294967296) :
    Calls Tryz.prog 37 #[v, .string s] w fun r w' => Below w.heap.size w w' ∧ ∃ tv, r = .returned (.tuple #[tv, .int .i64 (findN (wayF L false s.data.toList))]) ∧
      (∀ p tr, wayF L false s.data.toList = .ok (p, tr) → Texts w' w.heap.size tv tr) ∧ ((∃ n, wayF L false s.data.toList = .error n) → tv = .slice none 0 0) := by
  obtain ⟨o, cap, rfl, h1, h2, h3⟩ := hE
  have HS := Lib.hid ((go_any L hgood false o cap s w ⟨o, cap, rfl, h1, h2, h3⟩ hlL hb hs).mono (fun _ _ h => (⟨h.1, goRes_find h.2⟩ : _ ∧ _)))
  obtain ⟨n, hn⟩ : ∃ n, n = L.length := ⟨_, rfl⟩
  rw [← hn] at HS ⊢
  rw [show sortOf false = 0 from rfl] at HS
  generalize findB (wayF L false s.data.toList) = fb at *
  generalize findN (wayF L false s.data.toList) = fn at *
  generalize wayF L false s.data.toList = R at *
  clear hn h1 h2 h3 hlL hb
  go_enter Tryz.func37, Tryz.ntmps37
  go_wp2_with (go_at_call 41; refine HS.out.mono ?_; rintro r w2 ⟨hb2, oa, tn, tc, st, lo, ln, lc, hops, ro, rn, rc, dn, rfl, ht1, ht2⟩; have HB2 := Lib.hid hb2; have HT1 := Lib.hid ht1; have HT2 := Lib.hid ht2; clear hb2 ht1 ht2; unfold walkV)
  go_quiet (fail)
  go_wp2
  go_ret2
  refine ⟨below_drewN (HB2.out.alloc HB2.out.size _) _, _, rfl, fun p tr e => ?_, fun e => ?_⟩
  · exact texts_below_any (HT1.out p tr e).2 (below_drewN ((Below.refl _ _).alloc (Nat.le_refl _) _) _) (Nat.le_refl _)
  · obtain ⟨rfl, rfl, rfl⟩ := HT2.out e
    rfl
end
section
open Go.RowKit Go.Maps Go.Shelf
open Go.Lib hiding intOf size_eq
/-- a region that only reads: the world behind the draw has a name -/
theorem region_still_named {P : Program} {id : Nat} {Q : Exit → Act → World → Prop} {a : Act} {w : World} {l : List Oper} (hm : P.follows .mixedOrders = true) (hB : Region.lexB .any l.toArray = true)
    (h : ∀ wz, wz = w.drew → wpStill P l.toArray wz (fun a' => Q .normal a' wz) l a) : (Code.region id l.toArray true).wp P Q a w := wp_region_still_lit hm hB (h _ rfl)
set_option maxRecDepth 100000 in
set_option maxHeartbeats 1000000 in
theorem same_any (va vb : Value) (L : List Ent) (w : World) (ha : EntsAt w va L) (hb : EntsAt w vb L) (hl : L.length ≤ 1099511627776) :
    Calls Tryz.prog 23 #[va, vb] w fun r w' => Below w.heap.size w w' ∧ r = .returned (.bool true) := by
  obtain ⟨o1, cap1, rfl, hlc1, hcm1, hcells1⟩ := ha
  obtain ⟨o2, cap2, rfl, hlc2, hcm2, hcells2⟩ := hb
  obtain ⟨n, hn⟩ : ∃ n, n = L.length := ⟨_, rfl⟩
  rw [← hn] at hlc1 hlc2 hl ⊢
  have Hc1 := Lib.hid hcells1
  have Hc2 := Lib.hid hcells2
  have Hn := Lib.hid hn
  clear hcells1 hcells2 hn
  go_enter Tryz.func23, Tryz.ntmps23
  go_wp2
  go_loopw [5] (fun iv wr => ∃ (k : Nat), iv = .int .i64 (k : Int) ∧ k ≤ n ∧ Below w.heap.size w wr) (fun iv _ => n - (intOf iv).toNat)
  case atStart => exact ⟨0, rfl, Nat.zero_le _, Below.refl _ _⟩
  case round =>
    obtain ⟨k, rfl, hk, hbr⟩ := hrel
    have Hbr := Lib.hid hbr
    by_cases hlt : k < n
    · obtain ⟨e, hek⟩ : ∃ e, L[k]? = some e := ⟨_, List.getElem?_eq_getElem (by rw [← Hn.out]; exact hlt)⟩
      obtain ⟨a1, rfl, hal1, hcs1⟩ := Hc1.out k e hek
      obtain ⟨a2, rfl, hal2, hcs2⟩ := Hc2.out k e hek
      have up : ∀ (a : Addr), a.block < w.heap.size → (∀ j x, (entC e)[j]? = some x → w.cell? ((a.add (k * 5)).add j) = some x) → ∀ W, Below w.heap.size wr W → ∀ j x, (entC e)[j]? = some x → W.cell? ((a.add (k * 5)).add j) = some x := fun a hal hcs W hW j x hx => by
        have := hcs j x hx
        unfold World.cell? at this ⊢
        rw [hW.block _ (by rw [add_block, add_block]; have := hbr.size; omega), hbr.block _ (by rw [add_block, add_block]; omega)]
        exact this
      have Hu1 := Lib.hid (up a1 hal1 hcs1)
      have Hu2 := Lib.hid (up a2 hal2 hcs2)
      clear hcs1 hcs2 hbr hek up
      go_wp2_with fail
      refine region_still_named (by kernel_rfl) (by kernel_rfl) ?_
      intro wz hz
      have hbz : Below w.heap.size wr wz := by rw [hz]; exact below_drew1 (Below.refl _ _)
      have HC1 := Lib.hid (Hu1.out wz hbz)
      have HC2 := Lib.hid (Hu2.out wz hbz)
      have Hbz := Lib.hid (Hbr.out.trans hbz)
      clear hz hbz
      iterate 3 still_step
      refine still_load_at rfl _ _ rfl (a1.add (k * 5)) rfl [.string e.p, .int .i64 e.k, .int .i64 e.m, .string e.d, .string e.l] _ HC1.out Tryz.underlying38 rfl (by kernel_rfl) ?_
      iterate 3 still_step
      refine still_load_at rfl _ _ rfl (a2.add (k * 5)) rfl [.string e.p, .int .i64 e.k, .int .i64 e.m, .string e.d, .string e.l] _ HC2.out Tryz.underlying38 rfl (by kernel_rfl) ?_
      still_step
      refine wpStill_nil ?_
      go_wp2
      go_roundw
      case rel => exact ⟨k + 1, by go_num, by omega, Hbz.out⟩
      case measure => simp [intOf]; omega
    · obtain rfl : k = n := by omega
      clear hbr
      go_wp2
      go_ret
      exact ⟨Hbr.out, rfl⟩
end
end Go.Proofs.YtdkodedocklmdaaGreatDoor
