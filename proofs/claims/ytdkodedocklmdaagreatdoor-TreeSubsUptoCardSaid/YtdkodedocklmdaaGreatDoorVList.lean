/- What TreeStays asks of lists: the plain laws; bytes, but, kept (VPlain, VList). -/
import Derived.Test.YtdkodedocklmdaaGreatDoorTPutW
import Derived.Test.YtdkodedocklmdaaGreatDoorTTakeW
import Derived.Test.YtdkodedocklmdaaGreatDoorROf
import Derived.Test.YtdkodedocklmdaaGreatDoorULent
set_option linter.unusedSimpArgs false
set_option linter.unusedVariables false
namespace Go.Proofs.YtdkodedocklmdaaGreatDoor
section
theorem one_of_good {seen r : List Ent} {e : Ent} (h : Good (seen ++ e :: r)) : oneNo seen e = 0 := by
  have hinc := h.inc
  obtain ⟨i1, i2, i3⟩ := List.pairwise_append.1 hinc
  have he : e ∈ seen ++ e :: r := by simp
  have hit := h.it e he
  have hne : ∀ x ∈ seen, compareP x.path e.path < 0 := fun x hx => i3 x hx e (List.mem_cons_self ..)
  have hup : upNo seen e.path = 0 := by
    have hu := h.up e he
    unfold upNo at hu ⊢
    by_cases h0 : parent e.path = []
    · rw [if_pos h0]
    rw [if_neg h0] at hu ⊢
    cases hl : lookE (seen ++ e :: r) (parent e.path) with
    | none => rw [hl] at hu; cases hu
    | some z =>
      rw [hl] at hu
      obtain ⟨hz, hzp⟩ := lookE_some hl
      have hn := checkNo_neat (itselfNo_check hit)
      have hless : compareP z.path e.path < 0 := by rw [hzp]; exact under_less h0 (under_kid hn rfl)
      have hzs : z ∈ seen := by
        rcases List.mem_append.1 hz with hz | hz
        · exact hz
        · exfalso
          rcases List.mem_cons.1 hz with rfl | hz
          · exact compareP_irrefl _ hless
          · exact compareP_irrefl _ (compareP_trans hless ((List.pairwise_cons.1 i2).1 z hz))
      rw [← hzp, lookE_mem i1 hzs]
      exact hu
  have hlen := h.len
  have hbyt := h.byt
  rw [List.length_append, List.length_cons] at hlen
  rw [bytesE_append, bytesE_cons] at hbyt
  have hfull : ¬ (4096 ≤ seen.length ∨ 16777216 < bytesE seen + e.d.size) := by omega
  unfold oneNo
  rw [if_neg (by omega)]
  cases hl : seen.getLast? with
  | none =>
    simp only []
    rw [if_neg (by omega), if_neg hfull]
  | some q =>
    have hq := hne q (List.mem_of_getLast? hl)
    simp only []
    rw [if_neg (fun e2 => by rw [e2] at hq; exact compareP_irrefl _ hq), if_neg (by omega), if_neg (by omega), if_neg hfull]
theorem check_good : ∀ (r seen : List Ent), Good (seen ++ r) → checkGo seen r = (0, 0)
  | [], _, _ => rfl
  | e :: r, seen, h => by
    unfold checkGo
    rw [if_neg (by rw [one_of_good h]; exact fun x => x rfl)]
    exact check_good r (seen ++ [e]) (by rw [List.append_assoc]; exact h)
theorem Good.check {l : List Ent} (h : Good l) : checkL l = (0, 0) := check_good l [] h
/-- the list without the entry at a path -/
def butF (p : List UInt8) (x : Ent) : Bool := !(x.path == p)
def butL (l : List Ent) (p : List UInt8) : List Ent := l.filter (butF p)
theorem but_laid : ∀ (l : List Ent) (e : Ent), butL (laidL l e) e.path = butL l e.path
  | [], e => by simp [laidL, butL, butF]
  | a :: r, e => by
    have ih := but_laid r e
    have hb : ∀ (x : Ent) (s : List Ent), butL (x :: s) e.path = if butF e.path x then x :: butL s e.path else butL s e.path := fun x s => by
      unfold butL
      rw [List.filter_cons]
    have he : ∀ s, butL (e :: s) e.path = butL s e.path := fun s => by rw [hb, if_neg (by simp [butF])]
    unfold laidL
    by_cases hc : compareP a.path e.path < 0
    · rw [if_pos hc, hb, hb, ih]
    · rw [if_neg hc]
      by_cases h3 : a.path = e.path
      · rw [if_pos h3, he, hb, if_neg (by simp [butF, h3])]
      · rw [if_neg h3, he]
theorem put_look {l : List Ent} {e : Ent} (h : Good l) : lookE (laidL l e) e.path = some e := by rw [lookE_laid h.inc, if_pos rfl]
theorem Good.put {l : List Ent} (h : Good l) (e : Ent) : Good (putL l e) := by
  unfold putL
  by_cases h0 : putNo l e = 0
  · rw [if_pos h0]; exact h.laid h0
  · rw [if_neg h0]; exact h
theorem take_ok {l : List Ent} {p : List UInt8} (h : takeNo l p = 0) : (withoutL l p).length < l.length := by
  unfold takeNo at h
  by_cases h0 : p = []
  · rw [if_pos h0] at h; cases h
  rw [if_neg h0] at h
  cases hl : lookE l p with
  | none => rw [hl] at h; cases h
  | some x =>
    obtain ⟨hx, hp⟩ := lookE_some hl
    unfold withoutL
    have hk : keepE p x = false := keepE_false.2 (.inl hp)
    obtain ⟨a, b, rfl⟩ := List.append_of_mem hx
    rw [List.filter_append, List.filter_cons, hk, List.length_append, List.length_append, List.length_cons]
    have h1 := List.length_filter_le (keepE p) a
    have h2 := List.length_filter_le (keepE p) b
    simp
    omega
theorem flat_one (l : List Ent) (e : Ent) : (l ++ [e]).flatMap entC = l.flatMap entC ++ entC e := by rw [List.flatMap_append, List.flatMap_singleton]
theorem without_le (l : List Ent) (p : List UInt8) : (withoutL l p).length ≤ l.length := List.length_filter_le _ _
theorem but_le (l : List Ent) (p : List UInt8) : (butL l p).length ≤ l.length := List.length_filter_le _ _
end
section
open Go.RowKit Go.Maps
open Go.Lib hiding intOf size_eq
/-- a step on trees -/
structure Stp where
  d : Int
  who : Int
  e : Ent
  p : ByteArray
  n : Int
def stpC (s : Stp) : List Value := [.int .i64 s.d, .int .i64 s.who, .string s.e.p, .int .i64 s.e.k, .int .i64 s.e.m, .string s.e.d, .string s.e.l, .string s.p, .int .i64 s.n]
def StepsAt (w : World) (v : Value) (L : List Stp) : Prop := ∃ o cap, v = .slice o L.length cap ∧ L.length ≤ cap ∧ cap ≤ maxLen ∧ ∀ (i : Nat) e, L[i]? = some e → ∃ a, o = some a ∧ a.block < w.heap.size ∧ ∀ j x, (stpC e)[j]? = some x → w.cell? ((a.add (i * 9)).add j) = some x
theorem add_pos (a : Addr) {m : Nat} (h : m ≠ 0) : a.add m = ⟨a.block, a.off + m, none⟩ := by unfold Addr.add; rw [if_neg h]
theorem filter_step {f : Ent → Bool} {L : List Ent} {k : Nat} {e : Ent} (h : L[k]? = some e) : (L.take (k + 1)).filter f = (L.take k).filter f ++ (if f e then [e] else []) := by
  rw [← take_step h, List.filter_append]
  congr 1
  cases hf : f e <;> simp [hf]
set_option maxRecDepth 100000 in
set_option maxHeartbeats 2000000 in
theorem kept07_any (v : Value) (L : List Ent) (p : ByteArray) (w : World) (h : EntsAt w v L) (hb : Small L) (hl : L.length ≤ 1099511627776) (hp : p.size < 1152921504606846976) :
    Calls Tryz.prog 26 #[v, .string p] w fun r w' => ∃ v', r = .returned v' ∧ EntsAt w' v' (withoutL L p.data.toList) ∧ Below w.heap.size w w' := by
  obtain ⟨i0, hi, hz0, hz1, hz2⟩ := info_parts Tryz.infoEntry
  obtain ⟨o, cap, rfl, hlc, hcm, hcells⟩ := h
  obtain ⟨n, hn⟩ : ∃ n, n = L.length := ⟨_, rfl⟩
  rw [← hn] at hlc hl ⊢
  have Hi := Lib.hid hi
  have Hz0 := Lib.hid hz0
  have Hz1 := Lib.hid hz1
  have Hz2 := Lib.hid hz2
  have Hcells := Lib.hid hcells
  have Hn := Lib.hid hn
  have Hb := Lib.hid hb
  have HB := Lib.hid (fun (e : Ent) (he : e ∈ L) (W : World) => below_any p e.p W (by omega) (Nat.lt_trans (hb e he).1 (by decide)))
  clear hcells hn hi hz0 hz1 hz2 hb
  go_enter Tryz.func26, Tryz.ntmps26
  go_wp2
  go_loopw [5, 6] (fun ov iv wr => ∃ (k m : Nat), iv = .int .i64 (k : Int) ∧ k ≤ n ∧ m ≤ k ∧ m = ((L.take k).filter (keepE p.data.toList)).length ∧ wr.ownsRow w.heap.size 38 5 ov m (((L.take k).filter (keepE p.data.toList)).flatMap entC) ∧ Below w.heap.size w wr) (fun _ iv _ => n - (intOf iv).toNat)
  case atStart => exact ⟨0, 0, rfl, Nat.zero_le _, Nat.le_refl _, rfl, World.ownsRow_nil _ _ _ _, Below.refl _ _⟩
  case round =>
    obtain ⟨k, m, rfl, hk, hmk, hm, hrow, hbr⟩ := hrel
    have hbs := hbr.size
    by_cases hlt : k < n
    · obtain ⟨e, hek⟩ : ∃ e, L[k]? = some e := ⟨_, List.getElem?_eq_getElem (by rw [← Hn.out]; exact hlt)⟩
      obtain ⟨a, rfl, hal, hcs⟩ := Hcells.out k e hek
      have hem := List.mem_of_getElem? hek
      have hes := (Hb.out e hem).1
      have hcw : ∀ j x, (entC e)[j]? = some x → wr.cell? ((a.add (k * 5)).add j) = some x := fun j x hx => by
        have := hcs j x hx
        unfold World.cell? at this ⊢
        rw [hbr.block _ (by rw [add_block, add_block]; omega)]
        exact this
      have c0 : wr.cell? (a.add (k * 5)) = some (.string e.p) := by rw [← add_zero' (a.add (k * 5))]; exact hcw 0 _ rfl
      have hnew : ∀ j u, (entC e)[j]? = some u → (wr.alloc (.cells #[.string e.p, .int .i64 e.k, .int .i64 e.m, .string e.d, .string e.l] 38)).cell? ((⟨wr.heap.size, 0, none⟩ : Addr).add j) = some u := ent_cells (World.alloc_heap_new wr _)
      have Hcw := Lib.hid hcw
      have Hnew := Lib.hid hnew
      have Hrow := Lib.hid hrow
      have Hbr := Lib.hid hbr
      have HBe := Lib.hid (HB.out e hem)
      have hfs := filter_step (f := keepE p.data.toList) hek
      have Hm := Lib.hid hm
      clear hcw hnew hrow hbr hcs hek hem hm
      by_cases hpq : e.path = p.data.toList
      · have b1 : (e.p.toList == p.toList) = true := eqB_t (by rw [toList_data]; exact hpq)
        rw [if_neg (by unfold keepE; simp [hpq]), List.append_nil] at hfs
        have Hfs := Lib.hid hfs
        clear hfs hpq HBe
        go_wp2
        go_roundw
        case rel => exact ⟨k + 1, m, by go_num, by omega, by omega, by rw [Hfs.out]; exact Hm.out, by rw [Hfs.out]; exact Hrow.out, Hbr.out⟩
        case measure => simp [intOf]; omega
      · have b1 : (e.p.toList == p.toList) = false := eqB_f (by rw [toList_data]; exact hpq)
        by_cases hbl : belowP p.data.toList e.p.data.toList = true
        · rw [if_neg (by unfold keepE; rw [show e.path = e.p.data.toList from rfl, hbl]; simp), List.append_nil] at hfs
          have Hfs := Lib.hid hfs
          rw [hbl] at HBe
          clear hfs hpq hbl
          go_wp2_with (first
            | (go_at_call 70; refine (HBe.out _).mono ?_; rintro r w4 ⟨rfl, rfl⟩))
          go_roundw
          case rel => exact ⟨k + 1, m, by go_num, by omega, by omega, by rw [Hfs.out]; exact Hm.out, by rw [Hfs.out]; exact Hrow.out, Hbr.out⟩
          case measure => simp [intOf]; omega
        · have hbl2 : belowP p.data.toList e.p.data.toList = false := by simpa using hbl
          rw [if_pos (show keepE p.data.toList e = true by unfold keepE; rw [show belowP p.data.toList e.path = false from hbl2, show (e.path == p.data.toList) = false from beq_eq_false_iff_ne.2 hpq]; rfl)] at hfs
          have Hstep := Lib.hid (show ((L.take k).filter (keepE p.data.toList)).flatMap entC ++ entC e = ((L.take (k + 1)).filter (keepE p.data.toList)).flatMap entC by rw [hfs, flat_one])
          have Hlen := Lib.hid (show ((L.take (k + 1)).filter (keepE p.data.toList)).length = m + 1 by rw [hfs, List.length_append, ← Hm.out]; rfl)
          rw [hbl2] at HBe
          clear hfs hpq hbl hbl2
          go_wp2_with (first
            | (go_at_call 70; refine (HBe.out _).mono ?_; rintro r w4 ⟨rfl, rfl⟩)
            | (refine wpList_load_at rfl _ _ rfl (a.add (k * 5)) rfl [.string e.p, .int .i64 e.k, .int .i64 e.m, .string e.d, .string e.l] _ Hcw.out Tryz.underlying38 rfl (by kernel_rfl) ?_)
            | (at_builtin; go_loud (refine wpList_append_own _ rfl _ _ 22 rfl w.heap.size 38 i0 _ 5 64 Tryz.underlying22 Hi.out Hz0.out Hz1.out Hz2.out rfl (by decide) _ _ _ rfl (Hrow.out.alloc _) ⟨wr.heap.size, 0, none⟩ 1 1 [.string e.p, .int .i64 e.k, .int .i64 e.m, .string e.d, .string e.l] rfl rfl Hnew.out (by simp [Value.oneCell']) (by unfold maxLen; omega) (by omega) (by simp; omega) ?_); intro v' w2 hown' hgrow _))
          go_roundw
          case rel => exact ⟨k + 1, m + 1, by go_num, by omega, by omega, Hlen.out.symm, by rw [← Hstep.out]; exact hown', (Hbr.out.alloc (by omega) _).grown hgrow (by simp; omega) (fun k e => (World.ownsRow.lt Hrow.out k e).1)⟩
          case measure => simp [intOf]; omega
    · obtain rfl : k = n := by omega
      have hrow2 : wr.ownsRow w.heap.size 38 5 u5 (withoutL L p.data.toList).length ((withoutL L p.data.toList).flatMap entC) := by
        rw [hm, Hn.out, List.take_length] at hrow
        exact hrow
      have Hrow2 := Lib.hid hrow2
      have Hbr := Lib.hid hbr
      clear hrow hbr hrow2 hm
      go_wp2
      go_ret
      exact ⟨_, rfl, ents_of_row Hrow2.out, Hbr.out⟩
set_option maxRecDepth 100000 in
set_option maxHeartbeats 2000000 in
theorem but07_any (v : Value) (L : List Ent) (p : ByteArray) (w : World) (h : EntsAt w v L) (hb : Small L) (hl : L.length ≤ 1099511627776) (hp : p.size < 1152921504606846976) :
    Calls Tryz.prog 25 #[v, .string p] w fun r w' => ∃ v', r = .returned v' ∧ EntsAt w' v' (butL L p.data.toList) ∧ Below w.heap.size w w' := by
  obtain ⟨i0, hi, hz0, hz1, hz2⟩ := info_parts Tryz.infoEntry
  obtain ⟨o, cap, rfl, hlc, hcm, hcells⟩ := h
  obtain ⟨n, hn⟩ : ∃ n, n = L.length := ⟨_, rfl⟩
  rw [← hn] at hlc hl ⊢
  have Hi := Lib.hid hi
  have Hz0 := Lib.hid hz0
  have Hz1 := Lib.hid hz1
  have Hz2 := Lib.hid hz2
  have Hcells := Lib.hid hcells
  have Hn := Lib.hid hn
  have Hb := Lib.hid hb
  clear hcells hn hi hz0 hz1 hz2 hb
  go_enter Tryz.func25, Tryz.ntmps25
  go_wp2
  go_loopw [5, 6] (fun ov iv wr => ∃ (k m : Nat), iv = .int .i64 (k : Int) ∧ k ≤ n ∧ m ≤ k ∧ m = ((L.take k).filter (butF p.data.toList)).length ∧ wr.ownsRow w.heap.size 38 5 ov m (((L.take k).filter (butF p.data.toList)).flatMap entC) ∧ Below w.heap.size w wr) (fun _ iv _ => n - (intOf iv).toNat)
  case atStart => exact ⟨0, 0, rfl, Nat.zero_le _, Nat.le_refl _, rfl, World.ownsRow_nil _ _ _ _, Below.refl _ _⟩
  case round =>
    obtain ⟨k, m, rfl, hk, hmk, hm, hrow, hbr⟩ := hrel
    have hbs := hbr.size
    by_cases hlt : k < n
    · obtain ⟨e, hek⟩ : ∃ e, L[k]? = some e := ⟨_, List.getElem?_eq_getElem (by rw [← Hn.out]; exact hlt)⟩
      obtain ⟨a, rfl, hal, hcs⟩ := Hcells.out k e hek
      have hem := List.mem_of_getElem? hek
      have hes := (Hb.out e hem).1
      have hcw : ∀ j x, (entC e)[j]? = some x → wr.cell? ((a.add (k * 5)).add j) = some x := fun j x hx => by
        have := hcs j x hx
        unfold World.cell? at this ⊢
        rw [hbr.block _ (by rw [add_block, add_block]; omega)]
        exact this
      have c0 : wr.cell? (a.add (k * 5)) = some (.string e.p) := by rw [← add_zero' (a.add (k * 5))]; exact hcw 0 _ rfl
      have hnew : ∀ j u, (entC e)[j]? = some u → (wr.alloc (.cells #[.string e.p, .int .i64 e.k, .int .i64 e.m, .string e.d, .string e.l] 38)).cell? ((⟨wr.heap.size, 0, none⟩ : Addr).add j) = some u := ent_cells (World.alloc_heap_new wr _)
      have Hcw := Lib.hid hcw
      have Hnew := Lib.hid hnew
      have Hrow := Lib.hid hrow
      have Hbr := Lib.hid hbr
      have hfs := filter_step (f := butF p.data.toList) hek
      have Hm := Lib.hid hm
      clear hcw hnew hrow hbr hcs hek hem hm
      by_cases hpq : e.path = p.data.toList
      · have b1 : (e.p.toList == p.toList) = true := eqB_t (by rw [toList_data]; exact hpq)
        rw [if_neg (by unfold butF; simp [hpq]), List.append_nil] at hfs
        have Hfs := Lib.hid hfs
        clear hfs hpq
        go_wp2
        go_roundw
        case rel => exact ⟨k + 1, m, by go_num, by omega, by omega, by rw [Hfs.out]; exact Hm.out, by rw [Hfs.out]; exact Hrow.out, Hbr.out⟩
        case measure => simp [intOf]; omega
      · have b1 : (e.p.toList == p.toList) = false := eqB_f (by rw [toList_data]; exact hpq)
        rw [if_pos (show butF p.data.toList e = true by unfold butF; rw [show (e.path == p.data.toList) = false from beq_eq_false_iff_ne.2 hpq]; rfl)] at hfs
        have Hstep := Lib.hid (show ((L.take k).filter (butF p.data.toList)).flatMap entC ++ entC e = ((L.take (k + 1)).filter (butF p.data.toList)).flatMap entC by rw [hfs, flat_one])
        have Hlen := Lib.hid (show ((L.take (k + 1)).filter (butF p.data.toList)).length = m + 1 by rw [hfs, List.length_append, ← Hm.out]; rfl)
        clear hfs hpq
        go_wp2_with (first
          | (refine wpList_load_at rfl _ _ rfl (a.add (k * 5)) rfl [.string e.p, .int .i64 e.k, .int .i64 e.m, .string e.d, .string e.l] _ Hcw.out Tryz.underlying38 rfl (by kernel_rfl) ?_)
          | (at_builtin; go_loud (refine wpList_append_own _ rfl _ _ 22 rfl w.heap.size 38 i0 _ 5 64 Tryz.underlying22 Hi.out Hz0.out Hz1.out Hz2.out rfl (by decide) _ _ _ rfl (Hrow.out.alloc _) ⟨wr.heap.size, 0, none⟩ 1 1 [.string e.p, .int .i64 e.k, .int .i64 e.m, .string e.d, .string e.l] rfl rfl Hnew.out (by simp [Value.oneCell']) (by unfold maxLen; omega) (by omega) (by simp; omega) ?_); intro v' w2 hown' hgrow _))
        go_roundw
        case rel => exact ⟨k + 1, m + 1, by go_num, by omega, by omega, Hlen.out.symm, by rw [← Hstep.out]; exact hown', (Hbr.out.alloc (by omega) _).grown hgrow (by simp; omega) (fun k e => (World.ownsRow.lt Hrow.out k e).1)⟩
        case measure => simp [intOf]; omega
    · obtain rfl : k = n := by omega
      have hrow2 : wr.ownsRow w.heap.size 38 5 u5 (butL L p.data.toList).length ((butL L p.data.toList).flatMap entC) := by
        rw [hm, Hn.out, List.take_length] at hrow
        exact hrow
      have Hrow2 := Lib.hid hrow2
      have Hbr := Lib.hid hbr
      clear hrow hbr hrow2 hm
      go_wp2
      go_ret
      exact ⟨_, rfl, ents_of_row Hrow2.out, Hbr.out⟩
theorem bytes_step {L : List Ent} {k : Nat} {e : Ent} (h : L[k]? = some e) : bytesE (L.take (k + 1)) = bytesE (L.take k) + e.d.size := by
  rw [← take_step h, bytesE_append]
  simp [bytesE]
theorem bytes_take (L : List Ent) (k : Nat) : bytesE (L.take k) ≤ bytesE L := by
  conv => rhs; rw [← List.take_append_drop k L]
  rw [bytesE_append]
  omega
set_option maxRecDepth 100000 in
set_option maxHeartbeats 2000000 in
theorem bytes07_any (v : Value) (L : List Ent) (w : World) (h : EntsAt w v L) (hl : L.length ≤ 1099511627776) (hb : bytesE L ≤ 1099511627776) :
    Calls Tryz.prog 22 #[v] w fun r w' => r = .returned (.int .i64 (bytesE L : Int)) ∧ w' = w := by
  obtain ⟨o, cap, rfl, hlc, hcm, hcells⟩ := h
  obtain ⟨n, hn⟩ : ∃ n, n = L.length := ⟨_, rfl⟩
  rw [← hn] at hlc hl ⊢
  have Hcells := Lib.hid hcells
  have Hn := Lib.hid hn
  have Hb := Lib.hid hb
  clear hcells hn hb
  go_enter Tryz.func22, Tryz.ntmps22
  go_wp2
  go_loopw [3, 4] (fun sv iv wr => ∃ (k m : Nat), iv = .int .i64 (k : Int) ∧ sv = .int .i64 (m : Int) ∧ k ≤ n ∧ m = bytesE (L.take k) ∧ wr = w) (fun _ iv _ => n - (intOf iv).toNat)
  case atStart => exact ⟨0, 0, rfl, rfl, Nat.zero_le _, rfl, rfl⟩
  case round =>
    obtain ⟨k, m, rfl, rfl, hk, hm, rfl⟩ := hrel
    by_cases hlt : k < n
    · obtain ⟨e, hek⟩ : ∃ e, L[k]? = some e := ⟨_, List.getElem?_eq_getElem (by rw [← Hn.out]; exact hlt)⟩
      obtain ⟨a, rfl, hal, hcs⟩ := Hcells.out k e hek
      have c3 : wr.cell? ⟨(a.add (k * 5)).block, (a.add (k * 5)).off + 3, none⟩ = some (.string e.d) := by
        rw [← add_pos (a.add (k * 5)) (show 3 ≠ 0 by decide)]
        exact hcs 3 _ rfl
      have hst := bytes_step hek
      have hle := bytes_take L (k + 1)
      have hbb := Hb.out
      have hmd : m + e.d.size ≤ 1099511627776 := by rw [hm]; omega
      have Hst := Lib.hid (show m + e.d.size = bytesE (L.take (k + 1)) by rw [hst, hm])
      clear hst hle hbb hm hcs hek
      go_wp2
      go_roundw
      case rel => exact ⟨k + 1, m + e.d.size, by go_num, by go_num, by omega, Hst.out, (by first | rfl | trivial)⟩
      case measure => simp [intOf]; omega
    · obtain rfl : k = n := by omega
      have hm2 : m = bytesE L := by rw [hm, Hn.out, List.take_length]
      have Hm := Lib.hid hm2
      clear hm hm2
      go_wp2
      go_ret
      exact ⟨by rw [← Hm.out]; rfl, rfl⟩
end
end Go.Proofs.YtdkodedocklmdaaGreatDoor
