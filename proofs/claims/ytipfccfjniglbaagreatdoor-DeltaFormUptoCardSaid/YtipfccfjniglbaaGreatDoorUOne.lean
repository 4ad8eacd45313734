/- The reference's Find, Up, Itself, one, Check (URef, UOne). -/
import Derived.Test.YtipfccfjniglbaaGreatDoorTOf
import Derived.Test.YtipfccfjniglbaaGreatDoorRefb
import Derived.Deep.MidRow
import Derived.StillTailTactics
set_option linter.unusedSimpArgs false
set_option linter.unusedVariables false
namespace Go.Proofs.YtipfccfjniglbaaGreatDoor
section
open Go.RowKit Go.Maps
open Go.Lib hiding intOf size_eq
/-- the index of the entry at a path, or -1 -/
def ixE (L : List Ent) (q : List UInt8) : Int := match L.findIdx? (fun y => y.path == q) with
  | none => -1
  | some i => (i : Int)
theorem ixE_none {L : List Ent} {q : List UInt8} (h : ∀ e ∈ L, e.path ≠ q) : ixE L q = -1 := by
  have : L.findIdx? (fun y => y.path == q) = none := by
    rw [List.findIdx?_eq_none_iff]
    intro e he
    simp [h e he]
  unfold ixE
  rw [this]
theorem ixE_some {L : List Ent} {q : List UInt8} {k : Nat} {e : Ent} (hk : L[k]? = some e) (hq : e.path = q) (h : ∀ j x, j < k → L[j]? = some x → x.path ≠ q) : ixE L q = (k : Int) := by
  obtain ⟨hlt, hge⟩ := List.getElem?_eq_some_iff.1 hk
  have : L.findIdx? (fun y => y.path == q) = some k := by
    rw [List.findIdx?_eq_some_iff_getElem]
    refine ⟨hlt, by rw [hge]; simp [hq], fun j hj => ?_⟩
    have := h j _ hj (List.getElem?_eq_getElem (by omega))
    simpa using this
  unfold ixE
  rw [this]
theorem ixE_some_of {L : List Ent} {q : List UInt8} {e : Ent} (h : lookE L q = some e) : ∃ k : Nat, ixE L q = (k : Int) ∧ L[k]? = some e := by
  unfold lookE at h
  rw [List.find?_eq_some_iff_getElem] at h
  obtain ⟨hp, i, hi, hge, hn⟩ := h
  refine ⟨i, ixE_some (List.getElem?_eq_some_iff.2 ⟨hi, hge⟩) (by simpa using hp) fun j x hj hx => ?_, List.getElem?_eq_some_iff.2 ⟨hi, hge⟩⟩
  obtain ⟨h1, rfl⟩ := List.getElem?_eq_some_iff.1 hx
  simpa using hn j hj
theorem ixE_miss {L : List Ent} {q : List UInt8} (h : lookE L q = none) : ixE L q = -1 := ixE_none fun e he hp => by
  unfold lookE at h
  rw [List.find?_eq_none] at h
  exact h e he (by simp [hp])
set_option maxRecDepth 100000 in
set_option maxHeartbeats 1000000 in
theorem find07_any (v : Value) (L : List Ent) (q : ByteArray) (w : World) (h : EntsAt w v L) (hl : L.length ≤ 1099511627776) (hb : ∀ e ∈ L, e.p.size < 4611686018427387904) (hq : q.size < 4611686018427387904) :
    Calls Tryz.prog 73 #[v, .string q] w fun r w' => w' = w ∧ r = .returned (.int .i64 (ixE L q.data.toList)) := by
  obtain ⟨o, cap, rfl, hlc, hcm, hcells⟩ := h
  obtain ⟨n, hn⟩ : ∃ n, n = L.length := ⟨_, rfl⟩
  rw [← hn] at hlc hl ⊢
  have Hcells := Lib.hid hcells
  have Hn := Lib.hid hn
  have Hb := Lib.hid hb
  obtain ⟨qv, hqv⟩ : ∃ x, x = Value.string q := ⟨_, rfl⟩
  clear hcells hn hb
  go_enter Tryz.func73, Tryz.ntmps73
  go_wp2
  go_loopw [5] (fun iv wr => ∃ (k : Nat), iv = .int .i64 (k : Int) ∧ k ≤ n ∧ (∀ j x, j < k → L[j]? = some x → x.path ≠ q.data.toList) ∧ wr = w) (fun iv _ => n - (intOf iv).toNat)
  case atStart => exact ⟨0, rfl, Nat.zero_le _, fun j x hj => by omega, rfl⟩
  case round =>
    obtain ⟨k, rfl, hk, hno, rfl⟩ := hrel
    by_cases hlt : k < n
    · obtain ⟨e, hek⟩ : ∃ e, L[k]? = some e := ⟨_, List.getElem?_eq_getElem (by rw [← Hn.out]; exact hlt)⟩
      obtain ⟨a, rfl, hal, hcs⟩ := Hcells.out k e hek
      have hcw : wr.cell? (a.add (k * 5)) = some (.string e.p) := by rw [← add_zero' (a.add (k * 5))]; exact hcs 0 _ rfl
      have hep := Hb.out e (List.mem_of_getElem? hek)
      have Hno := Lib.hid hno
      have Hek := Lib.hid hek
      clear hno hek hcs Hcells
      by_cases hpq : e.path = q.data.toList
      · have b1 : (e.p.toList == q.toList) = true := eqB_t (by rw [toList_data]; exact hpq)
        have Hr := Lib.hid (ixE_some Hek.out hpq Hno.out)
        clear hpq
        go_wp2
        go_ret
        exact ⟨rfl, by rw [Hr.out]; rfl⟩
      · have b1 : (e.p.toList == q.toList) = false := eqB_f (by rw [toList_data]; exact hpq)
        have Hpq := Lib.hid hpq
        clear hpq
        go_wp2
        go_roundw
        case rel =>
          refine ⟨k + 1, by go_num, by omega, fun j x hj hx => ?_, trivial⟩
          by_cases hjk : j = k
          · subst hjk
            rw [Hek.out] at hx
            injection hx with hx
            subst hx
            exact Hpq.out
          · exact Hno.out j x (by omega) hx
        case measure => simp [intOf]; omega
    · have Hr := Lib.hid (show ixE L q.data.toList = -1 from ixE_none fun e he => by
        obtain ⟨j, hj⟩ := List.mem_iff_getElem?.1 he
        exact hno j e (by have := (List.getElem?_eq_some_iff.1 hj).1; rw [← Hn.out] at this; omega) hj)
      clear hno Hcells
      go_wp2
      go_ret
      exact ⟨rfl, by rw [Hr.out]; rfl⟩
theorem ixE_look {L : List Ent} {q : List UInt8} : (lookE L q = none → ixE L q = -1) ∧ ∀ e, lookE L q = some e → ∃ k : Nat, ixE L q = (k : Int) ∧ L[k]? = some e := ⟨ixE_miss, fun e h => ixE_some_of h⟩
/- behind Find -/
set_option maxRecDepth 100000 in
theorem isDir07_any (e : Ent) (w : World) : Calls Tryz.prog 106 #[.agg #[.string e.p, .int .i64 e.k, .int .i64 e.m, .string e.d, .string e.l]] w fun r w' => r = .returned (.bool (e.k == 1)) ∧ Below w.heap.size w w' := by
  go_enter Tryz.func106, Tryz.ntmps106
  go_wp2
  go_ret
  exact ⟨rfl, (Below.refl _ _).alloc (Nat.le_refl _) _⟩
set_option maxRecDepth 100000 in
set_option maxHeartbeats 2000000 in
theorem up07_any (v : Value) (L : List Ent) (q : ByteArray) (w : World) (h : EntsAt w v L) (hl : L.length ≤ 1099511627776) (hb : ∀ e ∈ L, e.p.size < 4611686018427387904) (hq : q.size ≤ 1099511627776) :
    Calls Tryz.prog 76 #[v, .string q] w fun r w' => r = .returned (.int .i64 (upNo L q.data.toList : Int)) ∧ Below w.heap.size w w' := by
  have hpl : (bs (parent q.data.toList)).size < 4611686018427387904 := by
    have : (parent q.data.toList).length ≤ q.data.toList.length := by unfold parent; simp; omega
    rw [← Lib.size_eq] at this
    rw [bs_size]; omega
  have hf := find07_any v L (bs (parent q.data.toList)) w h hl hb hpl
  rw [bs_toList] at hf
  have hpar := rparent_any q w (by omega)
  obtain ⟨o, cap, rfl, hlc, hcm, hcells⟩ := h
  obtain ⟨n, hn⟩ : ∃ n, n = L.length := ⟨_, rfl⟩
  rw [← hn] at hf hlc hl ⊢
  have hu : upNo L q.data.toList = if parent q.data.toList = [] then 0 else match lookE L (parent q.data.toList) with
    | none => 10
    | some x => if x.k = 1 then 0 else 13 := rfl
  have hix := @ixE_look L (parent q.data.toList)
  have Hpar := Lib.hid hpar
  have Hcells := Lib.hid hcells
  have Hn := Lib.hid hn
  clear hpar hcells hn hpl hb
  generalize upNo L q.data.toList = u at *
  generalize hP : parent q.data.toList = P at *
  clear hP
  by_cases h0 : P = []
  · rw [if_pos h0] at hu
    subst hu
    have e0 := emptyB_t (a := bs P) h0
    clear hf hix h0
    go_enter Tryz.func76, Tryz.ntmps76
    go_wp2_with (go_at_call 105; refine Hpar.out.mono ?_; rintro r w1 ⟨rfl, rfl⟩)
    go_ret
    exact ⟨rfl, Below.refl _ _⟩
  · rw [if_neg h0] at hu
    have e0 := emptyB_f (a := bs P) h0
    cases hlk : lookE L P with
    | none =>
      rw [hlk] at hu
      rw [hix.1 hlk] at hf
      replace hu : u = 10 := hu
      subst hu
      have Hf := Lib.hid hf
      clear hf hix h0 hlk
      go_enter Tryz.func76, Tryz.ntmps76
      go_wp2_with (first
        | (go_at_call 105; refine Hpar.out.mono ?_; rintro r w1 ⟨rfl, rfl⟩)
        | (go_at_call 73; refine Hf.out.mono ?_; rintro r w1 ⟨rfl, rfl⟩))
      go_ret
      exact ⟨rfl, Below.refl _ _⟩
    | some x =>
      rw [hlk] at hu
      obtain ⟨k, hk1, hk2⟩ := hix.2 x hlk
      rw [hk1] at hf
      obtain ⟨a, rfl, hal, hcs⟩ := Hcells.out k x hk2
      have hkn : k < n := by rw [Hn.out]; exact (List.getElem?_eq_some_iff.1 hk2).1
      have Hf := Lib.hid hf
      have Hcs := Lib.hid hcs
      have hD := isDir07_any x w
      clear hf hix h0 hlk hk1 hk2 hcs
      by_cases hx : x.k = 1
      · replace hu : u = 0 := hu.trans (if_pos hx)
        subst hu
        rw [show (x.k == 1) = true by simpa using hx] at hD
        have HD := Lib.hid hD
        clear hD hx
        go_enter Tryz.func76, Tryz.ntmps76
        go_wp2_with (first
          | (go_at_call 105; refine Hpar.out.mono ?_; rintro r w1 ⟨rfl, rfl⟩)
          | (go_at_call 73; refine Hf.out.mono ?_; rintro r w1 ⟨rfl, rfl⟩)
          | (refine wpList_load_at rfl _ _ rfl (a.add (k * 5)) rfl [.string x.p, .int .i64 x.k, .int .i64 x.m, .string x.d, .string x.l] _ Hcs.out Tryz.underlying52 rfl (by kernel_rfl) ?_)
          | (go_at_call 106; refine HD.out.mono ?_; rintro r w1 ⟨rfl, hb1⟩; have Hb1 := Lib.hid hb1; clear hb1))
        go_ret
        exact ⟨rfl, Hb1.out⟩
      · replace hu : u = 13 := hu.trans (if_neg hx)
        subst hu
        rw [show (x.k == 1) = false by simpa using hx] at hD
        have HD := Lib.hid hD
        clear hD hx
        go_enter Tryz.func76, Tryz.ntmps76
        go_wp2_with (first
          | (go_at_call 105; refine Hpar.out.mono ?_; rintro r w1 ⟨rfl, rfl⟩)
          | (go_at_call 73; refine Hf.out.mono ?_; rintro r w1 ⟨rfl, rfl⟩)
          | (refine wpList_load_at rfl _ _ rfl (a.add (k * 5)) rfl [.string x.p, .int .i64 x.k, .int .i64 x.m, .string x.d, .string x.l] _ Hcs.out Tryz.underlying52 rfl (by kernel_rfl) ?_)
          | (go_at_call 106; refine HD.out.mono ?_; rintro r w1 ⟨rfl, hb1⟩; have Hb1 := Lib.hid hb1; clear hb1))
        go_ret
        exact ⟨rfl, Hb1.out⟩
/-- may it be a link's target? -/
def targetOk (l : List UInt8) : Bool := decide (l ≠ [] ∧ l.length ≤ 100 ∧ (0 : UInt8) ∉ l)
set_option maxRecDepth 100000 in
set_option maxHeartbeats 2000000 in
theorem target_any (s : ByteArray) (w : World) (hs : s.size ≤ 1099511627776) : Calls Tryz.prog 104 #[.string s] w fun r w' => r = .returned (.bool (targetOk s.data.toList)) ∧ w = w' := by
  have hsz : s.size = s.data.toList.length := Lib.size_eq s
  go_enter Tryz.func104, Tryz.ntmps104
  have Hsz := Lib.hid hsz
  clear hsz
  go_wp2_with fail
  go_loop [3] (fun i => ∃ k : Nat, i = .int .i64 (k : Int) ∧ k ≤ s.size ∧ ∀ j, j < k → s.data.toList[j]? ≠ some 0) (fun i => s.size - (intOf i).toNat)
  case atStart => exact ⟨0, rfl, Nat.zero_le _, fun j hj => by omega⟩
  case round =>
    obtain ⟨k, rfl, hk, hno⟩ := hrel
    have Hno := Lib.hid hno
    clear hno
    by_cases hlt : k < s.size
    · by_cases hz : s.data.toList[k]? = some 0
      · have b1 := byte_eq hlt 0 (by decide) hz
        have hres : targetOk s.data.toList = false := by
          unfold targetOk
          exact decide_eq_false (fun h => h.2.2 (List.mem_of_getElem? hz))
        have Hres := Lib.hid hres
        clear hres hz
        go_wp2
        go_ret
        exact ⟨by rw [Hres.out]; rfl, rfl⟩
      · have b1 := byte_ne hlt 0 (by decide) hz
        have Hz := Lib.hid hz
        clear hz
        go_wp2
        go_round
        case rel =>
          refine ⟨k + 1, by go_num, by omega, fun j hj => ?_⟩
          by_cases hjk : j = k
          · rw [hjk]; exact Hz.out
          · exact Hno.out j (by omega)
        case measure => simp [intOf]; omega
    · have hnz : (0 : UInt8) ∉ s.data.toList := fun h => by
        obtain ⟨j, hj⟩ := List.mem_iff_getElem?.1 h
        exact Hno.out j (by have := (List.getElem?_eq_some_iff.1 hj).1; have := Hsz.out; omega) hj
      have hres : targetOk s.data.toList = decide (1 ≤ s.size ∧ s.size ≤ 100) := by
        unfold targetOk
        refine decide_eq_decide.2 ⟨fun h => ⟨?_, by have := Hsz.out; omega⟩, fun h => ⟨fun e => ?_, by have := Hsz.out; omega, hnz⟩⟩
        · have := List.length_pos_iff.2 h.1
          have := Hsz.out
          omega
        · have h9 := Hsz.out
          rw [e] at h9
          have h8 : s.size = 0 := h9
          omega
      have Hres := Lib.hid hres
      clear hres hnz
      by_cases h1 : 1 ≤ s.size
      · by_cases h2 : s.size ≤ 100
        · go_wp2
          go_ret
          exact ⟨by rw [Hres.out]; simp [h1, h2] <;> omega, rfl⟩
        · go_wp2
          go_ret
          exact ⟨by rw [Hres.out]; simp [h2] <;> omega, rfl⟩
      · go_wp2
        go_ret
        exact ⟨by rw [Hres.out]; simp [h1] <;> omega, rfl⟩
set_option maxRecDepth 100000 in
set_option maxHeartbeats 8000000 in
theorem itself07_any (e : Ent) (w : World) (hs : e.p.size ≤ 1099511627776) (hl : e.l.size ≤ 1099511627776) (hd : e.d.size ≤ 1099511627776) :
    Calls Tryz.prog 75 #[entV e] w fun r w' => r = .returned (.int .i64 (itselfNo e : Int)) ∧ Below w.heap.size w w' := by
  obtain ⟨p, k, m, d, l⟩ := e
  show Calls _ _ #[.agg #[.string p, .int .i64 k, .int .i64 m, .string d, .string l]] _ _
  have hch := rcheck_any p (w.alloc (.cells #[.string p, .int .i64 k, .int .i64 m, .string d, .string l] 52)) hs
  have hta := fun W => target_any l W hl
  have hcl : ∀ W, Below (w.alloc (.cells #[.string p, .int .i64 k, .int .i64 m, .string d, .string l] 52)).heap.size (w.alloc (.cells #[.string p, .int .i64 k, .int .i64 m, .string d, .string l] 52)) W → W.cell? ⟨w.heap.size, 2, none⟩ = some (.int .i64 m) ∧ W.cell? ⟨w.heap.size, 3, none⟩ = some (.string d) ∧ W.cell? ⟨w.heap.size, 4, none⟩ = some (.string l) ∧ Below w.heap.size w W := fun W hW => by
    have h1 := (hW.block w.heap.size (by simp)).trans (World.alloc_heap_new w _)
    refine ⟨?_, ?_, ?_, ((Below.refl _ _).alloc (Nat.le_refl _) _).trans (hW.mono (by simp))⟩ <;> (unfold World.cell?; rw [h1]; rfl)
  have hI : itselfNo ⟨p, k, m, d, l⟩ = if ¬ (k = 1 ∨ k = 2 ∨ k = 3) then 14
    else if checkNo p.data.toList ≠ 0 then checkNo p.data.toList
    else if m < 0 ∨ 4095 < m ∨ (k = 3 ∧ m ≠ 511) then 16
    else if k = 3 ∧ (l.data.toList = [] ∨ 100 < l.size ∨ (0 : UInt8) ∈ l.data.toList) then 17
    else if k = 2 ∧ 1048576 < d.size then 5
    else if (k ≠ 2 ∧ d.data.toList ≠ []) ∨ (k ≠ 3 ∧ l.data.toList ≠ []) then 4
    else 0 := rfl
  have htk : targetOk l.data.toList = decide (¬ (l.data.toList = [] ∨ 100 < l.size ∨ (0 : UInt8) ∈ l.data.toList)) := by
    unfold targetOk
    refine decide_eq_decide.2 ⟨fun h x => ?_, fun h => ⟨fun x => h (.inl x), ?_, fun x => h (.inr (.inr x))⟩⟩
    · rcases x with x | x | x
      · exact h.1 x
      · rw [Lib.size_eq] at x; omega
      · exact h.2.2 x
    · have : ¬ (100 < l.size) := fun x => h (.inr (.inl x))
      rw [Lib.size_eq] at this
      omega
  have Hch := Lib.hid hch
  have Hcl := Lib.hid hcl
  clear hch hcl
  generalize checkNo p.data.toList = cn at *
  by_cases hk : ¬ (k = 1 ∨ k = 2 ∨ k = 3)
  · have Hta := Lib.hid hta
    clear hta htk
    by_cases h1 : k < 1
    · have hin : itselfNo ⟨p, k, m, d, l⟩ = 14 := by
        rw [hI]
        rw [if_pos hk]
      have Hin := Lib.hid hin
      clear hin hI hk
      go_enter Tryz.func75, Tryz.ntmps75
      go_wp2_with (first
        | (go_at_call 103; refine Hch.out.mono ?_; rintro r w1 ⟨rfl, hb1⟩
           have c1 : w1.cell? ⟨w.heap.size, 2, none⟩ = some (.int .i64 m) := (Hcl.out w1 hb1).1
           have c2 : w1.cell? ⟨w.heap.size, 3, none⟩ = some (.string d) := (Hcl.out w1 hb1).2.1
           have c3 : w1.cell? ⟨w.heap.size, 4, none⟩ = some (.string l) := (Hcl.out w1 hb1).2.2.1
           have Hb1 := Lib.hid (Hcl.out w1 hb1).2.2.2
           clear hb1)
        | (go_at_call 104; refine (Hta.out _).mono ?_; rintro r w2 ⟨rfl, rfl⟩))
      go_ret
      exact ⟨by rw [Hin.out]; rfl, ((Below.refl _ _).alloc (Nat.le_refl _) _)⟩
    · have h3 : 3 < k := by omega
      have hin : itselfNo ⟨p, k, m, d, l⟩ = 14 := by
        rw [hI]
        rw [if_pos hk]
      have Hin := Lib.hid hin
      clear hin hI hk
      go_enter Tryz.func75, Tryz.ntmps75
      go_wp2_with (first
        | (go_at_call 103; refine Hch.out.mono ?_; rintro r w1 ⟨rfl, hb1⟩
           have c1 : w1.cell? ⟨w.heap.size, 2, none⟩ = some (.int .i64 m) := (Hcl.out w1 hb1).1
           have c2 : w1.cell? ⟨w.heap.size, 3, none⟩ = some (.string d) := (Hcl.out w1 hb1).2.1
           have c3 : w1.cell? ⟨w.heap.size, 4, none⟩ = some (.string l) := (Hcl.out w1 hb1).2.2.1
           have Hb1 := Lib.hid (Hcl.out w1 hb1).2.2.2
           clear hb1)
        | (go_at_call 104; refine (Hta.out _).mono ?_; rintro r w2 ⟨rfl, rfl⟩))
      go_ret
      exact ⟨by rw [Hin.out]; rfl, ((Below.refl _ _).alloc (Nat.le_refl _) _)⟩
  · by_cases hc0 : cn ≠ 0
    · have Hta := Lib.hid hta
      clear hta htk
      have b1 : ((cn : Int) != 0) = true := by simpa using hc0
      have hr : 1 ≤ k ∧ k ≤ 3 := by omega
      have hin : itselfNo ⟨p, k, m, d, l⟩ = cn := by
        rw [hI]
        rw [if_neg hk, if_pos hc0]
      have Hin := Lib.hid hin
      clear hin hI hk hc0
      go_enter Tryz.func75, Tryz.ntmps75
      go_wp2_with (first
        | (go_at_call 103; refine Hch.out.mono ?_; rintro r w1 ⟨rfl, hb1⟩
           have c1 : w1.cell? ⟨w.heap.size, 2, none⟩ = some (.int .i64 m) := (Hcl.out w1 hb1).1
           have c2 : w1.cell? ⟨w.heap.size, 3, none⟩ = some (.string d) := (Hcl.out w1 hb1).2.1
           have c3 : w1.cell? ⟨w.heap.size, 4, none⟩ = some (.string l) := (Hcl.out w1 hb1).2.2.1
           have Hb1 := Lib.hid (Hcl.out w1 hb1).2.2.2
           clear hb1)
        | (go_at_call 104; refine (Hta.out _).mono ?_; rintro r w2 ⟨rfl, rfl⟩))
      go_ret
      exact ⟨by rw [Hin.out]; rfl, Hb1.out⟩
    · obtain rfl : cn = 0 := by omega
      by_cases hm : m < 0 ∨ 4095 < m ∨ (k = 3 ∧ m ≠ 511)
      · have Hta := Lib.hid hta
        clear hta htk
        have hr : 1 ≤ k ∧ k ≤ 3 := by omega
        by_cases m1 : m < 0
        · clear hr
          rcases (show k = 1 ∨ k = 2 ∨ k = 3 by omega) with rfl | rfl | rfl
          · have hin : itselfNo ⟨p, 1, m, d, l⟩ = 16 := by
              rw [hI]
              rw [if_neg hk, if_neg hc0, if_pos hm]
            have Hin := Lib.hid hin
            clear hin hI hk hc0 hm
            go_enter Tryz.func75, Tryz.ntmps75
            go_wp2_with (first
              | (go_at_call 103; refine Hch.out.mono ?_; rintro r w1 ⟨rfl, hb1⟩
                 have c1 : w1.cell? ⟨w.heap.size, 2, none⟩ = some (.int .i64 m) := (Hcl.out w1 hb1).1
                 have c2 : w1.cell? ⟨w.heap.size, 3, none⟩ = some (.string d) := (Hcl.out w1 hb1).2.1
                 have c3 : w1.cell? ⟨w.heap.size, 4, none⟩ = some (.string l) := (Hcl.out w1 hb1).2.2.1
                 have Hb1 := Lib.hid (Hcl.out w1 hb1).2.2.2
                 clear hb1)
              | (go_at_call 104; refine (Hta.out _).mono ?_; rintro r w2 ⟨rfl, rfl⟩))
            go_ret
            exact ⟨by rw [Hin.out]; rfl, Hb1.out⟩
          · have hin : itselfNo ⟨p, 2, m, d, l⟩ = 16 := by
              rw [hI]
              rw [if_neg hk, if_neg hc0, if_pos hm]
            have Hin := Lib.hid hin
            clear hin hI hk hc0 hm
            go_enter Tryz.func75, Tryz.ntmps75
            go_wp2_with (first
              | (go_at_call 103; refine Hch.out.mono ?_; rintro r w1 ⟨rfl, hb1⟩
                 have c1 : w1.cell? ⟨w.heap.size, 2, none⟩ = some (.int .i64 m) := (Hcl.out w1 hb1).1
                 have c2 : w1.cell? ⟨w.heap.size, 3, none⟩ = some (.string d) := (Hcl.out w1 hb1).2.1
                 have c3 : w1.cell? ⟨w.heap.size, 4, none⟩ = some (.string l) := (Hcl.out w1 hb1).2.2.1
                 have Hb1 := Lib.hid (Hcl.out w1 hb1).2.2.2
                 clear hb1)
              | (go_at_call 104; refine (Hta.out _).mono ?_; rintro r w2 ⟨rfl, rfl⟩))
            go_ret
            exact ⟨by rw [Hin.out]; rfl, Hb1.out⟩
          · have hin : itselfNo ⟨p, 3, m, d, l⟩ = 16 := by
              rw [hI]
              rw [if_neg hk, if_neg hc0, if_pos hm]
            have Hin := Lib.hid hin
            clear hin hI hk hc0 hm
            go_enter Tryz.func75, Tryz.ntmps75
            go_wp2_with (first
              | (go_at_call 103; refine Hch.out.mono ?_; rintro r w1 ⟨rfl, hb1⟩
                 have c1 : w1.cell? ⟨w.heap.size, 2, none⟩ = some (.int .i64 m) := (Hcl.out w1 hb1).1
                 have c2 : w1.cell? ⟨w.heap.size, 3, none⟩ = some (.string d) := (Hcl.out w1 hb1).2.1
                 have c3 : w1.cell? ⟨w.heap.size, 4, none⟩ = some (.string l) := (Hcl.out w1 hb1).2.2.1
                 have Hb1 := Lib.hid (Hcl.out w1 hb1).2.2.2
                 clear hb1)
              | (go_at_call 104; refine (Hta.out _).mono ?_; rintro r w2 ⟨rfl, rfl⟩))
            go_ret
            exact ⟨by rw [Hin.out]; rfl, Hb1.out⟩
        · by_cases m2 : 4095 < m
          · clear hr
            rcases (show k = 1 ∨ k = 2 ∨ k = 3 by omega) with rfl | rfl | rfl
            · have hin : itselfNo ⟨p, 1, m, d, l⟩ = 16 := by
                rw [hI]
                rw [if_neg hk, if_neg hc0, if_pos hm]
              have Hin := Lib.hid hin
              clear hin hI hk hc0 hm
              go_enter Tryz.func75, Tryz.ntmps75
              go_wp2_with (first
                | (go_at_call 103; refine Hch.out.mono ?_; rintro r w1 ⟨rfl, hb1⟩
                   have c1 : w1.cell? ⟨w.heap.size, 2, none⟩ = some (.int .i64 m) := (Hcl.out w1 hb1).1
                   have c2 : w1.cell? ⟨w.heap.size, 3, none⟩ = some (.string d) := (Hcl.out w1 hb1).2.1
                   have c3 : w1.cell? ⟨w.heap.size, 4, none⟩ = some (.string l) := (Hcl.out w1 hb1).2.2.1
                   have Hb1 := Lib.hid (Hcl.out w1 hb1).2.2.2
                   clear hb1)
                | (go_at_call 104; refine (Hta.out _).mono ?_; rintro r w2 ⟨rfl, rfl⟩))
              go_ret
              exact ⟨by rw [Hin.out]; rfl, Hb1.out⟩
            · have hin : itselfNo ⟨p, 2, m, d, l⟩ = 16 := by
                rw [hI]
                rw [if_neg hk, if_neg hc0, if_pos hm]
              have Hin := Lib.hid hin
              clear hin hI hk hc0 hm
              go_enter Tryz.func75, Tryz.ntmps75
              go_wp2_with (first
                | (go_at_call 103; refine Hch.out.mono ?_; rintro r w1 ⟨rfl, hb1⟩
                   have c1 : w1.cell? ⟨w.heap.size, 2, none⟩ = some (.int .i64 m) := (Hcl.out w1 hb1).1
                   have c2 : w1.cell? ⟨w.heap.size, 3, none⟩ = some (.string d) := (Hcl.out w1 hb1).2.1
                   have c3 : w1.cell? ⟨w.heap.size, 4, none⟩ = some (.string l) := (Hcl.out w1 hb1).2.2.1
                   have Hb1 := Lib.hid (Hcl.out w1 hb1).2.2.2
                   clear hb1)
                | (go_at_call 104; refine (Hta.out _).mono ?_; rintro r w2 ⟨rfl, rfl⟩))
              go_ret
              exact ⟨by rw [Hin.out]; rfl, Hb1.out⟩
            · have hin : itselfNo ⟨p, 3, m, d, l⟩ = 16 := by
                rw [hI]
                rw [if_neg hk, if_neg hc0, if_pos hm]
              have Hin := Lib.hid hin
              clear hin hI hk hc0 hm
              go_enter Tryz.func75, Tryz.ntmps75
              go_wp2_with (first
                | (go_at_call 103; refine Hch.out.mono ?_; rintro r w1 ⟨rfl, hb1⟩
                   have c1 : w1.cell? ⟨w.heap.size, 2, none⟩ = some (.int .i64 m) := (Hcl.out w1 hb1).1
                   have c2 : w1.cell? ⟨w.heap.size, 3, none⟩ = some (.string d) := (Hcl.out w1 hb1).2.1
                   have c3 : w1.cell? ⟨w.heap.size, 4, none⟩ = some (.string l) := (Hcl.out w1 hb1).2.2.1
                   have Hb1 := Lib.hid (Hcl.out w1 hb1).2.2.2
                   clear hb1)
                | (go_at_call 104; refine (Hta.out _).mono ?_; rintro r w2 ⟨rfl, rfl⟩))
              go_ret
              exact ⟨by rw [Hin.out]; rfl, Hb1.out⟩
          · obtain ⟨rfl, m3⟩ : k = 3 ∧ m ≠ 511 := by omega
            have bm : (m != 511) = true := by simpa using m3
            clear hr
            have hin : itselfNo ⟨p, 3, m, d, l⟩ = 16 := by
              rw [hI]
              rw [if_neg hk, if_neg hc0, if_pos hm]
            have Hin := Lib.hid hin
            clear hin hI hk hc0 hm
            go_enter Tryz.func75, Tryz.ntmps75
            go_wp2_with (first
              | (go_at_call 103; refine Hch.out.mono ?_; rintro r w1 ⟨rfl, hb1⟩
                 have c1 : w1.cell? ⟨w.heap.size, 2, none⟩ = some (.int .i64 m) := (Hcl.out w1 hb1).1
                 have c2 : w1.cell? ⟨w.heap.size, 3, none⟩ = some (.string d) := (Hcl.out w1 hb1).2.1
                 have c3 : w1.cell? ⟨w.heap.size, 4, none⟩ = some (.string l) := (Hcl.out w1 hb1).2.2.1
                 have Hb1 := Lib.hid (Hcl.out w1 hb1).2.2.2
                 clear hb1)
              | (go_at_call 104; refine (Hta.out _).mono ?_; rintro r w2 ⟨rfl, rfl⟩))
            go_ret
            exact ⟨by rw [Hin.out]; rfl, Hb1.out⟩
      · have hm2 : 0 ≤ m ∧ m ≤ 4095 ∧ (k = 3 → m = 511) := by omega
        rcases (show k = 1 ∨ k = 2 ∨ k = 3 by omega) with rfl | rfl | rfl
        · obtain ⟨m1, m2, _⟩ := hm2
          have Hta := Lib.hid hta
          clear hta htk
          by_cases hdd : d.data.toList = []
          · have e0 := emptyB_t hdd
            by_cases he : l.data.toList = []
            · have e1 := emptyB_t he
              have hin : itselfNo ⟨p, 1, m, d, l⟩ = 0 := by
                rw [hI]
                rw [if_neg hk, if_neg hc0, if_neg hm, if_neg (fun x => absurd x.1 (by decide)), if_neg (fun x => absurd x.1 (by decide)), if_neg (by rintro (⟨_, x⟩ | ⟨_, x⟩); exact x hdd; exact x he)]
              have Hin := Lib.hid hin
              clear hin hI hk hc0 hm he hdd
              go_enter Tryz.func75, Tryz.ntmps75
              go_wp2_with (first
                | (go_at_call 103; refine Hch.out.mono ?_; rintro r w1 ⟨rfl, hb1⟩
                   have c1 : w1.cell? ⟨w.heap.size, 2, none⟩ = some (.int .i64 m) := (Hcl.out w1 hb1).1
                   have c2 : w1.cell? ⟨w.heap.size, 3, none⟩ = some (.string d) := (Hcl.out w1 hb1).2.1
                   have c3 : w1.cell? ⟨w.heap.size, 4, none⟩ = some (.string l) := (Hcl.out w1 hb1).2.2.1
                   have Hb1 := Lib.hid (Hcl.out w1 hb1).2.2.2
                   clear hb1)
                | (go_at_call 104; refine (Hta.out _).mono ?_; rintro r w2 ⟨rfl, rfl⟩))
              go_ret
              exact ⟨by rw [Hin.out]; rfl, Hb1.out⟩
            · have e1 := emptyB_f he
              have hin : itselfNo ⟨p, 1, m, d, l⟩ = 4 := by
                rw [hI]
                rw [if_neg hk, if_neg hc0, if_neg hm, if_neg (fun x => absurd x.1 (by decide)), if_neg (fun x => absurd x.1 (by decide)), if_pos (.inr ⟨by decide, he⟩)]
              have Hin := Lib.hid hin
              clear hin hI hk hc0 hm he hdd
              go_enter Tryz.func75, Tryz.ntmps75
              go_wp2_with (first
                | (go_at_call 103; refine Hch.out.mono ?_; rintro r w1 ⟨rfl, hb1⟩
                   have c1 : w1.cell? ⟨w.heap.size, 2, none⟩ = some (.int .i64 m) := (Hcl.out w1 hb1).1
                   have c2 : w1.cell? ⟨w.heap.size, 3, none⟩ = some (.string d) := (Hcl.out w1 hb1).2.1
                   have c3 : w1.cell? ⟨w.heap.size, 4, none⟩ = some (.string l) := (Hcl.out w1 hb1).2.2.1
                   have Hb1 := Lib.hid (Hcl.out w1 hb1).2.2.2
                   clear hb1)
                | (go_at_call 104; refine (Hta.out _).mono ?_; rintro r w2 ⟨rfl, rfl⟩))
              go_ret
              exact ⟨by rw [Hin.out]; rfl, Hb1.out⟩
          · have e0 := emptyB_f hdd
            have hin : itselfNo ⟨p, 1, m, d, l⟩ = 4 := by
              rw [hI]
              rw [if_neg hk, if_neg hc0, if_neg hm, if_neg (fun x => absurd x.1 (by decide)), if_neg (fun x => absurd x.1 (by decide)), if_pos (.inl ⟨by decide, hdd⟩)]
            have Hin := Lib.hid hin
            clear hin hI hk hc0 hm hdd
            go_enter Tryz.func75, Tryz.ntmps75
            go_wp2_with (first
              | (go_at_call 103; refine Hch.out.mono ?_; rintro r w1 ⟨rfl, hb1⟩
                 have c1 : w1.cell? ⟨w.heap.size, 2, none⟩ = some (.int .i64 m) := (Hcl.out w1 hb1).1
                 have c2 : w1.cell? ⟨w.heap.size, 3, none⟩ = some (.string d) := (Hcl.out w1 hb1).2.1
                 have c3 : w1.cell? ⟨w.heap.size, 4, none⟩ = some (.string l) := (Hcl.out w1 hb1).2.2.1
                 have Hb1 := Lib.hid (Hcl.out w1 hb1).2.2.2
                 clear hb1)
              | (go_at_call 104; refine (Hta.out _).mono ?_; rintro r w2 ⟨rfl, rfl⟩))
            go_ret
            exact ⟨by rw [Hin.out]; rfl, Hb1.out⟩
        · obtain ⟨m1, m2, _⟩ := hm2
          have Hta := Lib.hid hta
          clear hta htk
          by_cases hdd : 1048576 < d.size
          · have hin : itselfNo ⟨p, 2, m, d, l⟩ = 5 := by
              rw [hI]
              rw [if_neg hk, if_neg hc0, if_neg hm, if_neg (fun x => absurd x.1 (by decide)), if_pos ⟨rfl, hdd⟩]
            have Hin := Lib.hid hin
            clear hin hI hk hc0 hm
            go_enter Tryz.func75, Tryz.ntmps75
            go_wp2_with (first
              | (go_at_call 103; refine Hch.out.mono ?_; rintro r w1 ⟨rfl, hb1⟩
                 have c1 : w1.cell? ⟨w.heap.size, 2, none⟩ = some (.int .i64 m) := (Hcl.out w1 hb1).1
                 have c2 : w1.cell? ⟨w.heap.size, 3, none⟩ = some (.string d) := (Hcl.out w1 hb1).2.1
                 have c3 : w1.cell? ⟨w.heap.size, 4, none⟩ = some (.string l) := (Hcl.out w1 hb1).2.2.1
                 have Hb1 := Lib.hid (Hcl.out w1 hb1).2.2.2
                 clear hb1)
              | (go_at_call 104; refine (Hta.out _).mono ?_; rintro r w2 ⟨rfl, rfl⟩))
            go_ret
            exact ⟨by rw [Hin.out]; rfl, Hb1.out⟩
          · by_cases he : l.data.toList = []
            · have e1 := emptyB_t he
              have hin : itselfNo ⟨p, 2, m, d, l⟩ = 0 := by
                rw [hI]
                rw [if_neg hk, if_neg hc0, if_neg hm, if_neg (fun x => absurd x.1 (by decide)), if_neg (fun x => hdd x.2), if_neg (by rintro (⟨x, _⟩ | ⟨_, x⟩); exact x rfl; exact x he)]
              have Hin := Lib.hid hin
              clear hin hI hk hc0 hm he
              go_enter Tryz.func75, Tryz.ntmps75
              go_wp2_with (first
                | (go_at_call 103; refine Hch.out.mono ?_; rintro r w1 ⟨rfl, hb1⟩
                   have c1 : w1.cell? ⟨w.heap.size, 2, none⟩ = some (.int .i64 m) := (Hcl.out w1 hb1).1
                   have c2 : w1.cell? ⟨w.heap.size, 3, none⟩ = some (.string d) := (Hcl.out w1 hb1).2.1
                   have c3 : w1.cell? ⟨w.heap.size, 4, none⟩ = some (.string l) := (Hcl.out w1 hb1).2.2.1
                   have Hb1 := Lib.hid (Hcl.out w1 hb1).2.2.2
                   clear hb1)
                | (go_at_call 104; refine (Hta.out _).mono ?_; rintro r w2 ⟨rfl, rfl⟩))
              go_ret
              exact ⟨by rw [Hin.out]; rfl, Hb1.out⟩
            · have e1 := emptyB_f he
              have hin : itselfNo ⟨p, 2, m, d, l⟩ = 4 := by
                rw [hI]
                rw [if_neg hk, if_neg hc0, if_neg hm, if_neg (fun x => absurd x.1 (by decide)), if_neg (fun x => hdd x.2), if_pos (.inr ⟨by decide, he⟩)]
              have Hin := Lib.hid hin
              clear hin hI hk hc0 hm he
              go_enter Tryz.func75, Tryz.ntmps75
              go_wp2_with (first
                | (go_at_call 103; refine Hch.out.mono ?_; rintro r w1 ⟨rfl, hb1⟩
                   have c1 : w1.cell? ⟨w.heap.size, 2, none⟩ = some (.int .i64 m) := (Hcl.out w1 hb1).1
                   have c2 : w1.cell? ⟨w.heap.size, 3, none⟩ = some (.string d) := (Hcl.out w1 hb1).2.1
                   have c3 : w1.cell? ⟨w.heap.size, 4, none⟩ = some (.string l) := (Hcl.out w1 hb1).2.2.1
                   have Hb1 := Lib.hid (Hcl.out w1 hb1).2.2.2
                   clear hb1)
                | (go_at_call 104; refine (Hta.out _).mono ?_; rintro r w2 ⟨rfl, rfl⟩))
              go_ret
              exact ⟨by rw [Hin.out]; rfl, Hb1.out⟩
        · obtain ⟨m1, m2, m3⟩ := hm2
          obtain rfl : m = 511 := m3 rfl
          clear m1 m2 m3
          by_cases ht : l.data.toList = [] ∨ 100 < l.size ∨ (0 : UInt8) ∈ l.data.toList
          · rw [htk, decide_eq_false (fun x => x ht)] at hta
            have Hta := Lib.hid hta
            clear hta htk
            have hin : itselfNo ⟨p, 3, 511, d, l⟩ = 17 := by
              rw [hI]
              rw [if_neg hk, if_neg hc0, if_neg hm, if_pos ⟨rfl, ht⟩]
            have Hin := Lib.hid hin
            clear hin hI hk hc0 hm ht
            go_enter Tryz.func75, Tryz.ntmps75
            go_wp2_with (first
              | (go_at_call 103; refine Hch.out.mono ?_; rintro r w1 ⟨rfl, hb1⟩
                 have c1 : w1.cell? ⟨w.heap.size, 2, none⟩ = some (.int .i64 511) := (Hcl.out w1 hb1).1
                 have c2 : w1.cell? ⟨w.heap.size, 3, none⟩ = some (.string d) := (Hcl.out w1 hb1).2.1
                 have c3 : w1.cell? ⟨w.heap.size, 4, none⟩ = some (.string l) := (Hcl.out w1 hb1).2.2.1
                 have Hb1 := Lib.hid (Hcl.out w1 hb1).2.2.2
                 clear hb1)
              | (go_at_call 104; refine (Hta.out _).mono ?_; rintro r w2 ⟨rfl, rfl⟩))
            go_ret
            exact ⟨by rw [Hin.out]; rfl, Hb1.out⟩
          · rw [htk, decide_eq_true ht] at hta
            have Hta := Lib.hid hta
            clear hta htk
            by_cases hdd : d.data.toList = []
            · have e0 := emptyB_t hdd
              have hin : itselfNo ⟨p, 3, 511, d, l⟩ = 0 := by
                rw [hI]
                rw [if_neg hk, if_neg hc0, if_neg hm, if_neg (fun x => ht x.2), if_neg (fun x => absurd x.1 (by decide)), if_neg (by rintro (⟨_, x⟩ | ⟨x, _⟩); exact x hdd; exact x rfl)]
              have Hin := Lib.hid hin
              clear hin hI hk hc0 hm ht hdd
              go_enter Tryz.func75, Tryz.ntmps75
              go_wp2_with (first
                | (go_at_call 103; refine Hch.out.mono ?_; rintro r w1 ⟨rfl, hb1⟩
                   have c1 : w1.cell? ⟨w.heap.size, 2, none⟩ = some (.int .i64 511) := (Hcl.out w1 hb1).1
                   have c2 : w1.cell? ⟨w.heap.size, 3, none⟩ = some (.string d) := (Hcl.out w1 hb1).2.1
                   have c3 : w1.cell? ⟨w.heap.size, 4, none⟩ = some (.string l) := (Hcl.out w1 hb1).2.2.1
                   have Hb1 := Lib.hid (Hcl.out w1 hb1).2.2.2
                   clear hb1)
                | (go_at_call 104; refine (Hta.out _).mono ?_; rintro r w2 ⟨rfl, rfl⟩))
              go_ret
              exact ⟨by rw [Hin.out]; rfl, Hb1.out⟩
            · have e0 := emptyB_f hdd
              have hin : itselfNo ⟨p, 3, 511, d, l⟩ = 4 := by
                rw [hI]
                rw [if_neg hk, if_neg hc0, if_neg hm, if_neg (fun x => ht x.2), if_neg (fun x => absurd x.1 (by decide)), if_pos (.inl ⟨by decide, hdd⟩)]
              have Hin := Lib.hid hin
              clear hin hI hk hc0 hm ht hdd
              go_enter Tryz.func75, Tryz.ntmps75
              go_wp2_with (first
                | (go_at_call 103; refine Hch.out.mono ?_; rintro r w1 ⟨rfl, hb1⟩
                   have c1 : w1.cell? ⟨w.heap.size, 2, none⟩ = some (.int .i64 511) := (Hcl.out w1 hb1).1
                   have c2 : w1.cell? ⟨w.heap.size, 3, none⟩ = some (.string d) := (Hcl.out w1 hb1).2.1
                   have c3 : w1.cell? ⟨w.heap.size, 4, none⟩ = some (.string l) := (Hcl.out w1 hb1).2.2.1
                   have Hb1 := Lib.hid (Hcl.out w1 hb1).2.2.2
                   clear hb1)
                | (go_at_call 104; refine (Hta.out _).mono ?_; rintro r w2 ⟨rfl, rfl⟩))
              go_ret
              exact ⟨by rw [Hin.out]; rfl, Hb1.out⟩
end
section
open Go.RowKit Go.Maps
open Go.Lib hiding intOf size_eq
theorem ents_take {w : World} {o : Option Addr} {n cap i : Nat} {L : List Ent} (h : EntsAt w (.slice o n cap) L) (hi : i ≤ n) : EntsAt w (.slice o i cap) (L.take i) := by
  obtain ⟨o2, cap2, e, h1, h2, h3⟩ := h
  injection e with e1 e2 e3
  subst e1
  subst e3
  have hl : (L.take i).length = i := by rw [List.length_take]; omega
  refine ⟨o, cap, by rw [hl], by omega, h2, fun j x hx => ?_⟩
  have hj := (List.getElem?_eq_some_iff.1 hx).1
  rw [List.getElem?_take, if_pos (by omega)] at hx
  exact h3 j x hx
/-- the entry i where it lies -/
def EntIx (w : World) (a : Addr) (i : Nat) (e : Ent) : Prop := ∀ W, Below w.heap.size w W → (∀ j x, (entC e)[j]? = some x → W.cell? ((a.add (i * 5)).add j) = some x) ∧ W.cell? (a.add (i * 5)) = some (.string e.p) ∧ W.cell? ((a.add (i * 5)).add 3) = some (.string e.d)
theorem entIx_of {w : World} {a : Addr} {i : Nat} {e : Ent} (hal : a.block < w.heap.size) (hc : ∀ j x, (entC e)[j]? = some x → w.cell? ((a.add (i * 5)).add j) = some x) : EntIx w a i e := fun W hW => by
  have h1 : ∀ j x, (entC e)[j]? = some x → W.cell? ((a.add (i * 5)).add j) = some x := fun j x hx => by
    have := hc j x hx
    unfold World.cell? at this ⊢
    rw [hW.block _ (by rw [add_block, add_block]; omega)]
    exact this
  exact ⟨h1, by rw [← add_zero' (a.add (i * 5))]; exact h1 0 _ rfl, h1 3 _ rfl⟩
theorem add_ne (a : Addr) {m : Nat} (h : m ≠ 0) : a.add m = ⟨a.block, a.off + m, none⟩ := by unfold Addr.add; rw [if_neg h]
theorem take_getLast {L : List Ent} {k : Nat} {q : Ent} (h : L[k]? = some q) : (L.take (k + 1)).getLast? = some q := take_last h
set_option maxRecDepth 100000 in
set_option maxHeartbeats 8000000 in
theorem one07_zero (v : Value) (L : List Ent) (e : Ent) (w : World) (h : EntsAt w v L) (he : L[0]? = some e) (hs : e.p.size ≤ 1099511627776 ∧ e.l.size ≤ 1099511627776 ∧ e.d.size ≤ 1099511627776) :
    Calls Tryz.prog 62 #[v, .int .i64 0, .int .i64 0] w fun r w' => r = .returned (.int .i64 (oneNo [] e : Int)) ∧ Below w.heap.size w w' := by
  have hE := h
  obtain ⟨o, cap, rfl, hlc, hcm, hcells⟩ := h
  obtain ⟨a, rfl, hal, hcs⟩ := hcells 0 e he
  obtain ⟨n, hn⟩ : ∃ n, n = L.length := ⟨_, rfl⟩
  have hn0 : 0 < n := by rw [hn]; exact (List.getElem?_eq_some_iff.1 he).1
  rw [← hn] at hE hlc ⊢
  have hno : oneNo [] e = if itselfNo e ≠ 0 then itselfNo e else if upNo [] e.p.data.toList ≠ 0 then upNo [] e.p.data.toList else if 4096 ≤ ([] : List Ent).length ∨ 16777216 < bytesE [] + e.d.size then 5 else 0 := rfl
  have hit := itself07_any e w hs.1 hs.2.1 hs.2.2
  have hup := fun W (hW : Below w.heap.size w W) => up07_any (.slice (some a) 0 cap) [] e.p W ((ents_take hE (Nat.zero_le n)).below hW (Nat.le_refl _)) (by simp) (fun x hx => by cases hx) hs.1
  have hc : ∀ W, Below w.heap.size w W → W.cell? a = some (.string e.p) ∧ W.cell? ⟨a.block, a.off + 3, none⟩ = some (.string e.d) ∧ ∀ j x, (entC e)[j]? = some x → W.cell? (a.add j) = some x := fun W hW => by
    have h1 := entIx_of hal hcs W hW
    rw [Nat.zero_mul, add_zero', add_ne a (show 3 ≠ 0 by decide)] at h1
    exact ⟨h1.2.1, h1.2.2, h1.1⟩
  have Hc := Lib.hid hc
  have Hup := Lib.hid hup
  have hds := hs.2.2
  clear hE hcells hcs hal hn he hs hup hc
  rw [show bytesE ([] : List Ent) = 0 from rfl] at hno
  generalize upNo [] e.p.data.toList = u at *
  generalize oneNo [] e = N at *
  by_cases h1 : itselfNo e ≠ 0
  · rw [if_pos h1] at hno
    generalize itselfNo e = t at *
    have Hit := Lib.hid hit
    have Hno := Lib.hid hno
    have b1 : ((t : Int) != 0) = true := by simpa using h1
    clear hno hit h1
    go_enter Tryz.func62, Tryz.ntmps62
    go_wp2_with (first
      | (refine wpList_load_at rfl _ _ rfl a rfl [.string e.p, .int .i64 e.k, .int .i64 e.m, .string e.d, .string e.l] _ (Hc.out w (Below.refl _ _)).2.2 Tryz.underlying52 rfl (by kernel_rfl) ?_)
      | (go_at_call 75; refine Hit.out.mono ?_; rintro r w1 ⟨rfl, hb1⟩
         have f1w1 : w1.cell? a = some (.string e.p) := (Hc.out w1 hb1).1
         have Hb1 := Lib.hid hb1
         clear hb1))
    go_ret
    exact ⟨by rw [Hno.out]; rfl, Hb1.out⟩
  · rw [if_neg h1] at hno
    rw [show itselfNo e = 0 by omega] at hit
    have Hit := Lib.hid hit
    clear hit h1
    by_cases h2 : u ≠ 0
    · rw [if_pos h2] at hno
      have Hno := Lib.hid hno
      have b2 : ((u : Int) != 0) = true := by simpa using h2
      clear hno h2
      go_enter Tryz.func62, Tryz.ntmps62
      go_wp2_with (first
        | (refine wpList_load_at rfl _ _ rfl a rfl [.string e.p, .int .i64 e.k, .int .i64 e.m, .string e.d, .string e.l] _ (Hc.out w (Below.refl _ _)).2.2 Tryz.underlying52 rfl (by kernel_rfl) ?_)
        | (go_at_call 75; refine Hit.out.mono ?_; rintro r w1 ⟨rfl, hb1⟩
           have f1w1 : w1.cell? a = some (.string e.p) := (Hc.out w1 hb1).1
           have Hb1 := Lib.hid hb1
           clear hb1))
      go_quiet (fail)
      have Hb2 := Lib.hid (below_drewN Hb1.out nq)
      obtain ⟨w2, hww2⟩ : ∃ x, x = w1.drewN nq := ⟨_, rfl⟩
      rw [← hww2] at Hb2 ⊢
      have f1w2 : w2.cell? a = some (.string e.p) := (Hc.out w2 Hb2.out).1
      have f2w2 : w2.cell? ⟨a.block, a.off + 3, none⟩ = some (.string e.d) := (Hc.out w2 Hb2.out).2.1
      clear hww2 Hb1
      go_wp2_with fail
      go_quiet (fail)
      have Hb3 := Lib.hid (below_drewN Hb2.out nq)
      obtain ⟨w3, hww3⟩ : ∃ x, x = w2.drewN nq := ⟨_, rfl⟩
      rw [← hww3] at Hb3 ⊢
      have f1w3 : w3.cell? a = some (.string e.p) := (Hc.out w3 Hb3.out).1
      have f2w3 : w3.cell? ⟨a.block, a.off + 3, none⟩ = some (.string e.d) := (Hc.out w3 Hb3.out).2.1
      clear hww3 Hb2
      go_wp2_with fail
      have g1 : w3.drew.cell? a = some (.string e.p) := f1w3
      have g2 : w3.drew.cell? ⟨a.block, a.off + 3, none⟩ = some (.string e.d) := f2w3
      go_still_tail 8, (by kernel_rfl)
      go_wp2_with (first
        | (go_at_call 76; refine (Hup.out _ (below_drew Hb3.out)).mono ?_; rintro r w9 ⟨rfl, hb9⟩
           have Hb9 := Lib.hid ((below_drew Hb3.out).trans (hb9.mono (below_drew Hb3.out).size))
           have h1 : w9.cell? ⟨a.block, a.off + 3, none⟩ = some (.string e.d) := (Hc.out w9 Hb9.out).2.1
           clear hb9))
      go_ret
      exact ⟨by rw [Hno.out]; rfl, Hb9.out⟩
    · obtain rfl : u = 0 := by omega
      rw [if_neg h2] at hno
      clear h2
      by_cases h3 : 4096 ≤ ([] : List Ent).length ∨ 16777216 < 0 + e.d.size
      · rw [if_pos h3] at hno
        have h4 : 16777216 < e.d.size := by simp at h3; omega
        have Hno := Lib.hid hno
        clear hno h3
        go_enter Tryz.func62, Tryz.ntmps62
        go_wp2_with (first
          | (refine wpList_load_at rfl _ _ rfl a rfl [.string e.p, .int .i64 e.k, .int .i64 e.m, .string e.d, .string e.l] _ (Hc.out w (Below.refl _ _)).2.2 Tryz.underlying52 rfl (by kernel_rfl) ?_)
          | (go_at_call 75; refine Hit.out.mono ?_; rintro r w1 ⟨rfl, hb1⟩
             have f1w1 : w1.cell? a = some (.string e.p) := (Hc.out w1 hb1).1
             have Hb1 := Lib.hid hb1
             clear hb1))
        go_quiet (fail)
        have Hb2 := Lib.hid (below_drewN Hb1.out nq)
        obtain ⟨w2, hww2⟩ : ∃ x, x = w1.drewN nq := ⟨_, rfl⟩
        rw [← hww2] at Hb2 ⊢
        have f1w2 : w2.cell? a = some (.string e.p) := (Hc.out w2 Hb2.out).1
        have f2w2 : w2.cell? ⟨a.block, a.off + 3, none⟩ = some (.string e.d) := (Hc.out w2 Hb2.out).2.1
        clear hww2 Hb1
        go_wp2_with fail
        go_quiet (fail)
        have Hb3 := Lib.hid (below_drewN Hb2.out nq)
        obtain ⟨w3, hww3⟩ : ∃ x, x = w2.drewN nq := ⟨_, rfl⟩
        rw [← hww3] at Hb3 ⊢
        have f1w3 : w3.cell? a = some (.string e.p) := (Hc.out w3 Hb3.out).1
        have f2w3 : w3.cell? ⟨a.block, a.off + 3, none⟩ = some (.string e.d) := (Hc.out w3 Hb3.out).2.1
        clear hww3 Hb2
        go_wp2_with fail
        have g1 : w3.drew.cell? a = some (.string e.p) := f1w3
        have g2 : w3.drew.cell? ⟨a.block, a.off + 3, none⟩ = some (.string e.d) := f2w3
        go_still_tail 8, (by kernel_rfl)
        go_wp2_with (first
          | (go_at_call 76; refine (Hup.out _ (below_drew Hb3.out)).mono ?_; rintro r w9 ⟨rfl, hb9⟩
             have Hb9 := Lib.hid ((below_drew Hb3.out).trans (hb9.mono (below_drew Hb3.out).size))
             have h1 : w9.cell? ⟨a.block, a.off + 3, none⟩ = some (.string e.d) := (Hc.out w9 Hb9.out).2.1
             clear hb9))
        go_ret
        exact ⟨by rw [Hno.out]; rfl, Hb9.out⟩
      · rw [if_neg h3] at hno
        have h4 : e.d.size ≤ 16777216 := by simp at h3; omega
        have Hno := Lib.hid hno
        clear hno h3
        go_enter Tryz.func62, Tryz.ntmps62
        go_wp2_with (first
          | (refine wpList_load_at rfl _ _ rfl a rfl [.string e.p, .int .i64 e.k, .int .i64 e.m, .string e.d, .string e.l] _ (Hc.out w (Below.refl _ _)).2.2 Tryz.underlying52 rfl (by kernel_rfl) ?_)
          | (go_at_call 75; refine Hit.out.mono ?_; rintro r w1 ⟨rfl, hb1⟩
             have f1w1 : w1.cell? a = some (.string e.p) := (Hc.out w1 hb1).1
             have Hb1 := Lib.hid hb1
             clear hb1))
        go_quiet (fail)
        have Hb2 := Lib.hid (below_drewN Hb1.out nq)
        obtain ⟨w2, hww2⟩ : ∃ x, x = w1.drewN nq := ⟨_, rfl⟩
        rw [← hww2] at Hb2 ⊢
        have f1w2 : w2.cell? a = some (.string e.p) := (Hc.out w2 Hb2.out).1
        have f2w2 : w2.cell? ⟨a.block, a.off + 3, none⟩ = some (.string e.d) := (Hc.out w2 Hb2.out).2.1
        clear hww2 Hb1
        go_wp2_with fail
        go_quiet (fail)
        have Hb3 := Lib.hid (below_drewN Hb2.out nq)
        obtain ⟨w3, hww3⟩ : ∃ x, x = w2.drewN nq := ⟨_, rfl⟩
        rw [← hww3] at Hb3 ⊢
        have f1w3 : w3.cell? a = some (.string e.p) := (Hc.out w3 Hb3.out).1
        have f2w3 : w3.cell? ⟨a.block, a.off + 3, none⟩ = some (.string e.d) := (Hc.out w3 Hb3.out).2.1
        clear hww3 Hb2
        go_wp2_with fail
        have g1 : w3.drew.cell? a = some (.string e.p) := f1w3
        have g2 : w3.drew.cell? ⟨a.block, a.off + 3, none⟩ = some (.string e.d) := f2w3
        go_still_tail 8, (by kernel_rfl)
        go_wp2_with (first
          | (go_at_call 76; refine (Hup.out _ (below_drew Hb3.out)).mono ?_; rintro r w9 ⟨rfl, hb9⟩
             have Hb9 := Lib.hid ((below_drew Hb3.out).trans (hb9.mono (below_drew Hb3.out).size))
             have h1 : w9.cell? ⟨a.block, a.off + 3, none⟩ = some (.string e.d) := (Hc.out w9 Hb9.out).2.1
             clear hb9))
        go_ret
        exact ⟨by rw [Hno.out]; rfl, Hb9.out⟩
set_option maxRecDepth 100000 in
set_option maxHeartbeats 16000000 in
theorem one07_succ (v : Value) (L : List Ent) (k i : Nat) (q e : Ent) (w : World) (h : EntsAt w v L) (hki : i = k + 1) (hq : L[k]? = some q) (he : L[i]? = some e) (hL : ∀ x ∈ L, x.p.size ≤ 1099511627776) (hs : e.l.size ≤ 1099511627776 ∧ e.d.size ≤ 1099511627776) (hl : L.length ≤ 1099511627776) (hby : bytesE (L.take i) ≤ 1099511627776) :
    Calls Tryz.prog 62 #[v, .int .i64 (i : Int), .int .i64 (bytesE (L.take i) : Int)] w fun r w' => r = .returned (.int .i64 (oneNo (L.take i) e : Int)) ∧ Below w.heap.size w w' := by
  have hE := h
  obtain ⟨o, cap, rfl, hlc, hcm, hcells⟩ := h
  obtain ⟨a, rfl, hal, hcs⟩ := hcells i e he
  obtain ⟨a', ea, hal', hcs'⟩ := hcells k q hq
  injection ea with ea
  subst ea
  have hep := hL e (List.mem_of_getElem? he)
  have hqp := hL q (List.mem_of_getElem? hq)
  obtain ⟨n, hn⟩ : ∃ n, n = L.length := ⟨_, rfl⟩
  have hkn : i < n := by rw [hn]; exact (List.getElem?_eq_some_iff.1 he).1
  have hkn2 : k < n := by omega
  have hlen : (L.take i).length = i := by rw [List.length_take, ← hn]; omega
  rw [← hn] at hE hlc hl ⊢
  have hno : oneNo (L.take i) e = if itselfNo e ≠ 0 then itselfNo e else if q.path = e.path then 11 else if 0 < compareP q.path e.path then 1
      else if upNo (L.take i) e.p.data.toList ≠ 0 then upNo (L.take i) e.p.data.toList else if 4096 ≤ i ∨ 16777216 < bytesE (L.take i) + e.d.size then 5 else 0 := by
    unfold oneNo
    rw [show (L.take i).getLast? = some q by rw [hki]; exact take_getLast hq, hlen]
    rfl
  have hit := itself07_any e w hep hs.1 hs.2
  have hup := fun W (hW : Below w.heap.size w W) => up07_any (.slice (some a) i cap) (L.take i) e.p W ((ents_take hE (show i ≤ n by omega)).below hW (Nat.le_refl _)) (by rw [hlen]; omega) (fun x hx => by have := hL x (List.mem_of_mem_take hx); omega) hep
  have hcmp := fun W => rcompare_any q.p e.p W hqp hep
  have hc : ∀ W, Below w.heap.size w W → W.cell? (a.add (i * 5)) = some (.string e.p) ∧ W.cell? ⟨(a.add (i * 5)).block, (a.add (i * 5)).off + 3, none⟩ = some (.string e.d) ∧ (∀ j x, (entC e)[j]? = some x → W.cell? ((a.add (i * 5)).add j) = some x) ∧ W.cell? (a.add (k * 5)) = some (.string q.p) := fun W hW => by
    have h1 := entIx_of hal hcs W hW
    have h2 := entIx_of hal' hcs' W hW
    have h3 := h1.2.2
    have h4 := h1.2.1
    rw [add_ne _ (show 3 ≠ 0 by decide)] at h3
    exact ⟨h4, h3, h1.1, h2.2.1⟩
  have hpq : q.path = e.path ↔ (q.p.toList == e.p.toList) = true := by
    unfold Ent.path
    rw [beq_iff_eq, toList_data, toList_data]
  have Hc := Lib.hid hc
  have Hup := Lib.hid hup
  have hds := hs.2
  have wr : IntKind.i64.wrap ((i : Int) - 1) = (k : Int) := by rw [IntKind.wrap_i64]; omega
  have wr2 : (i : Int) - 1 = (k : Int) := by omega
  have wr3 : IntKind.i64.wrap (k : Int) = (k : Int) := wrap_nat (by unfold maxLen; omega)
  have hi0 : 0 < i := by omega
  have hic : i ≤ cap := by omega
  have hc2 : q.path = q.p.data.toList ∧ e.path = e.p.data.toList := ⟨rfl, rfl⟩
  rw [show compareP q.p.data.toList e.p.data.toList = compareP q.path e.path from rfl] at hcmp
  have Hki := Lib.hid hki
  clear hki
  clear hE hcells hcs hal hcs' hal' hn he hq hs hup hc hL hep hqp hlen hc2
  generalize upNo (L.take i) e.p.data.toList = u at *
  generalize oneNo (L.take i) e = N at *
  generalize bytesE (L.take i) = bb at *
  generalize compareP q.path e.path = c at *
  by_cases h1 : itselfNo e ≠ 0
  · rw [if_pos h1] at hno
    generalize itselfNo e = t at *
    have Hit := Lib.hid hit
    have Hno := Lib.hid hno
    have Hcmp := Lib.hid hcmp
    have b1 : ((t : Int) != 0) = true := by simpa using h1
    clear hno hit h1 hcmp hpq
    go_enter Tryz.func62, Tryz.ntmps62
    go_wp2_with (first
      | (refine wpList_load_at rfl _ _ rfl (a.add (i * 5)) rfl [.string e.p, .int .i64 e.k, .int .i64 e.m, .string e.d, .string e.l] _ (Hc.out w (Below.refl _ _)).2.2.1 Tryz.underlying52 rfl (by kernel_rfl) ?_)
      | (go_at_call 75; refine Hit.out.mono ?_; rintro r w1 ⟨rfl, hb1⟩
         have f1w1 : w1.cell? (a.add (i * 5)) = some (.string e.p) := (Hc.out w1 hb1).1
         have q1w1 : w1.cell? (a.add (k * 5)) = some (.string q.p) := (Hc.out w1 hb1).2.2.2
         have Hb1 := Lib.hid hb1
         clear hb1))
    go_ret
    exact ⟨by rw [Hno.out]; rfl, Hb1.out⟩
  · rw [if_neg h1] at hno
    rw [show itselfNo e = 0 by omega] at hit
    have Hit := Lib.hid hit
    have Hcmp := Lib.hid hcmp
    clear hit h1 hcmp
    by_cases h2 : q.path = e.path
    · rw [if_pos h2] at hno
      have Hno := Lib.hid hno
      have b2 := hpq.1 h2
      clear hno h2 hpq
      go_enter Tryz.func62, Tryz.ntmps62
      go_wp2_with (first
        | (refine wpList_load_at rfl _ _ rfl (a.add (i * 5)) rfl [.string e.p, .int .i64 e.k, .int .i64 e.m, .string e.d, .string e.l] _ (Hc.out w (Below.refl _ _)).2.2.1 Tryz.underlying52 rfl (by kernel_rfl) ?_)
        | (go_at_call 75; refine Hit.out.mono ?_; rintro r w1 ⟨rfl, hb1⟩
           have f1w1 : w1.cell? (a.add (i * 5)) = some (.string e.p) := (Hc.out w1 hb1).1
           have q1w1 : w1.cell? (a.add (k * 5)) = some (.string q.p) := (Hc.out w1 hb1).2.2.2
           have Hb1 := Lib.hid hb1
           clear hb1))
      go_quiet (fail)
      have Hb2 := Lib.hid (below_drewN Hb1.out nq)
      obtain ⟨w2, hww2⟩ : ∃ x, x = w1.drewN nq := ⟨_, rfl⟩
      rw [← hww2] at Hb2 ⊢
      have f1w2 : w2.cell? (a.add (i * 5)) = some (.string e.p) := (Hc.out w2 Hb2.out).1
      have f2w2 : w2.cell? ⟨(a.add (i * 5)).block, (a.add (i * 5)).off + 3, none⟩ = some (.string e.d) := (Hc.out w2 Hb2.out).2.1
      clear hww2 Hb1
      have q1w2 : w2.cell? (a.add (k * 5)) = some (.string q.p) := (Hc.out w2 Hb2.out).2.2.2
      go_wp2_with fail
      go_ret
      exact ⟨by rw [Hno.out]; rfl, Hb2.out⟩
    · rw [if_neg h2] at hno
      have b2 : (q.p.toList == e.p.toList) = false := by
        cases hx : (q.p.toList == e.p.toList) with
        | false => rfl
        | true => exact absurd (hpq.2 hx) h2
      clear h2 hpq
      by_cases h3 : 0 < c
      · rw [if_pos h3] at hno
        have Hno := Lib.hid hno
        clear hno
        go_enter Tryz.func62, Tryz.ntmps62
        go_wp2_with (first
          | (refine wpList_load_at rfl _ _ rfl (a.add (i * 5)) rfl [.string e.p, .int .i64 e.k, .int .i64 e.m, .string e.d, .string e.l] _ (Hc.out w (Below.refl _ _)).2.2.1 Tryz.underlying52 rfl (by kernel_rfl) ?_)
          | (go_at_call 75; refine Hit.out.mono ?_; rintro r w1 ⟨rfl, hb1⟩
             have f1w1 : w1.cell? (a.add (i * 5)) = some (.string e.p) := (Hc.out w1 hb1).1
             have q1w1 : w1.cell? (a.add (k * 5)) = some (.string q.p) := (Hc.out w1 hb1).2.2.2
             have Hb1 := Lib.hid hb1
             clear hb1))
        go_quiet (fail)
        have Hb2 := Lib.hid (below_drewN Hb1.out nq)
        obtain ⟨w2, hww2⟩ : ∃ x, x = w1.drewN nq := ⟨_, rfl⟩
        rw [← hww2] at Hb2 ⊢
        have f1w2 : w2.cell? (a.add (i * 5)) = some (.string e.p) := (Hc.out w2 Hb2.out).1
        have f2w2 : w2.cell? ⟨(a.add (i * 5)).block, (a.add (i * 5)).off + 3, none⟩ = some (.string e.d) := (Hc.out w2 Hb2.out).2.1
        clear hww2 Hb1
        have q1w2 : w2.cell? (a.add (k * 5)) = some (.string q.p) := (Hc.out w2 Hb2.out).2.2.2
        go_wp2_with fail
        have x1 : w2.drew.cell? (a.add (i * 5)) = some (.string e.p) := f1w2
        have x2 : w2.drew.cell? (a.add (k * 5)) = some (.string q.p) := q1w2
        go_still_tail 14, (by kernel_rfl)
        go_wp2_with (first
          | (go_at_call 63; refine (Hcmp.out _).mono ?_; rintro r w3 ⟨rfl, hb3⟩
             have Hb3 := Lib.hid ((below_drew Hb2.out).trans (hb3.mono (below_drew Hb2.out).size))
             have f1w3 : w3.cell? (a.add (i * 5)) = some (.string e.p) := (Hc.out w3 Hb3.out).1
             have f2w3 : w3.cell? ⟨(a.add (i * 5)).block, (a.add (i * 5)).off + 3, none⟩ = some (.string e.d) := (Hc.out w3 Hb3.out).2.1
             clear hb3))
        go_ret
        exact ⟨by rw [Hno.out]; rfl, Hb3.out⟩
      · rw [if_neg h3] at hno
        by_cases h4 : u ≠ 0
        · rw [if_pos h4] at hno
          have Hno := Lib.hid hno
          have b4 : ((u : Int) != 0) = true := by simpa using h4
          clear hno h4
          go_enter Tryz.func62, Tryz.ntmps62
          go_wp2_with (first
            | (refine wpList_load_at rfl _ _ rfl (a.add (i * 5)) rfl [.string e.p, .int .i64 e.k, .int .i64 e.m, .string e.d, .string e.l] _ (Hc.out w (Below.refl _ _)).2.2.1 Tryz.underlying52 rfl (by kernel_rfl) ?_)
            | (go_at_call 75; refine Hit.out.mono ?_; rintro r w1 ⟨rfl, hb1⟩
               have f1w1 : w1.cell? (a.add (i * 5)) = some (.string e.p) := (Hc.out w1 hb1).1
               have q1w1 : w1.cell? (a.add (k * 5)) = some (.string q.p) := (Hc.out w1 hb1).2.2.2
               have Hb1 := Lib.hid hb1
               clear hb1))
          go_quiet (fail)
          have Hb2 := Lib.hid (below_drewN Hb1.out nq)
          obtain ⟨w2, hww2⟩ : ∃ x, x = w1.drewN nq := ⟨_, rfl⟩
          rw [← hww2] at Hb2 ⊢
          have f1w2 : w2.cell? (a.add (i * 5)) = some (.string e.p) := (Hc.out w2 Hb2.out).1
          have f2w2 : w2.cell? ⟨(a.add (i * 5)).block, (a.add (i * 5)).off + 3, none⟩ = some (.string e.d) := (Hc.out w2 Hb2.out).2.1
          clear hww2 Hb1
          have q1w2 : w2.cell? (a.add (k * 5)) = some (.string q.p) := (Hc.out w2 Hb2.out).2.2.2
          go_wp2_with fail
          have x1 : w2.drew.cell? (a.add (i * 5)) = some (.string e.p) := f1w2
          have x2 : w2.drew.cell? (a.add (k * 5)) = some (.string q.p) := q1w2
          go_still_tail 14, (by kernel_rfl)
          go_wp2_with (first
            | (go_at_call 63; refine (Hcmp.out _).mono ?_; rintro r w3 ⟨rfl, hb3⟩
               have Hb3 := Lib.hid ((below_drew Hb2.out).trans (hb3.mono (below_drew Hb2.out).size))
               have f1w3 : w3.cell? (a.add (i * 5)) = some (.string e.p) := (Hc.out w3 Hb3.out).1
               have f2w3 : w3.cell? ⟨(a.add (i * 5)).block, (a.add (i * 5)).off + 3, none⟩ = some (.string e.d) := (Hc.out w3 Hb3.out).2.1
               clear hb3))
          have g1 : w3.drew.cell? (a.add (i * 5)) = some (.string e.p) := f1w3
          have g2 : w3.drew.cell? ⟨(a.add (i * 5)).block, (a.add (i * 5)).off + 3, none⟩ = some (.string e.d) := f2w3
          go_still_tail 8, (by kernel_rfl)
          go_wp2_with (first
            | (go_at_call 76; refine (Hup.out _ (below_drew Hb3.out)).mono ?_; rintro r w9 ⟨rfl, hb9⟩
               have Hb9 := Lib.hid ((below_drew Hb3.out).trans (hb9.mono (below_drew Hb3.out).size))
               have h1 : w9.cell? ⟨(a.add (i * 5)).block, (a.add (i * 5)).off + 3, none⟩ = some (.string e.d) := (Hc.out w9 Hb9.out).2.1
               clear hb9))
          go_ret
          exact ⟨by rw [Hno.out]; rfl, Hb9.out⟩
        · obtain rfl : u = 0 := by omega
          rw [if_neg h4] at hno
          clear h4
          by_cases h5 : 4096 ≤ i ∨ 16777216 < bb + e.d.size
          · rw [if_pos h5] at hno
            have Hno := Lib.hid hno
            clear hno
            by_cases h6 : 4096 ≤ i
            · clear h5
              go_enter Tryz.func62, Tryz.ntmps62
              go_wp2_with (first
                | (refine wpList_load_at rfl _ _ rfl (a.add (i * 5)) rfl [.string e.p, .int .i64 e.k, .int .i64 e.m, .string e.d, .string e.l] _ (Hc.out w (Below.refl _ _)).2.2.1 Tryz.underlying52 rfl (by kernel_rfl) ?_)
                | (go_at_call 75; refine Hit.out.mono ?_; rintro r w1 ⟨rfl, hb1⟩
                   have f1w1 : w1.cell? (a.add (i * 5)) = some (.string e.p) := (Hc.out w1 hb1).1
                   have q1w1 : w1.cell? (a.add (k * 5)) = some (.string q.p) := (Hc.out w1 hb1).2.2.2
                   have Hb1 := Lib.hid hb1
                   clear hb1))
              go_quiet (fail)
              have Hb2 := Lib.hid (below_drewN Hb1.out nq)
              obtain ⟨w2, hww2⟩ : ∃ x, x = w1.drewN nq := ⟨_, rfl⟩
              rw [← hww2] at Hb2 ⊢
              have f1w2 : w2.cell? (a.add (i * 5)) = some (.string e.p) := (Hc.out w2 Hb2.out).1
              have f2w2 : w2.cell? ⟨(a.add (i * 5)).block, (a.add (i * 5)).off + 3, none⟩ = some (.string e.d) := (Hc.out w2 Hb2.out).2.1
              clear hww2 Hb1
              have q1w2 : w2.cell? (a.add (k * 5)) = some (.string q.p) := (Hc.out w2 Hb2.out).2.2.2
              go_wp2_with fail
              have x1 : w2.drew.cell? (a.add (i * 5)) = some (.string e.p) := f1w2
              have x2 : w2.drew.cell? (a.add (k * 5)) = some (.string q.p) := q1w2
              go_still_tail 14, (by kernel_rfl)
              go_wp2_with (first
                | (go_at_call 63; refine (Hcmp.out _).mono ?_; rintro r w3 ⟨rfl, hb3⟩
                   have Hb3 := Lib.hid ((below_drew Hb2.out).trans (hb3.mono (below_drew Hb2.out).size))
                   have f1w3 : w3.cell? (a.add (i * 5)) = some (.string e.p) := (Hc.out w3 Hb3.out).1
                   have f2w3 : w3.cell? ⟨(a.add (i * 5)).block, (a.add (i * 5)).off + 3, none⟩ = some (.string e.d) := (Hc.out w3 Hb3.out).2.1
                   clear hb3))
              have g1 : w3.drew.cell? (a.add (i * 5)) = some (.string e.p) := f1w3
              have g2 : w3.drew.cell? ⟨(a.add (i * 5)).block, (a.add (i * 5)).off + 3, none⟩ = some (.string e.d) := f2w3
              go_still_tail 8, (by kernel_rfl)
              go_wp2_with (first
                | (go_at_call 76; refine (Hup.out _ (below_drew Hb3.out)).mono ?_; rintro r w9 ⟨rfl, hb9⟩
                   have Hb9 := Lib.hid ((below_drew Hb3.out).trans (hb9.mono (below_drew Hb3.out).size))
                   have h1 : w9.cell? ⟨(a.add (i * 5)).block, (a.add (i * 5)).off + 3, none⟩ = some (.string e.d) := (Hc.out w9 Hb9.out).2.1
                   clear hb9))
              go_ret
              exact ⟨by rw [Hno.out]; rfl, Hb9.out⟩
            · have h7 : 16777216 < bb + e.d.size := by omega
              clear h5
              go_enter Tryz.func62, Tryz.ntmps62
              go_wp2_with (first
                | (refine wpList_load_at rfl _ _ rfl (a.add (i * 5)) rfl [.string e.p, .int .i64 e.k, .int .i64 e.m, .string e.d, .string e.l] _ (Hc.out w (Below.refl _ _)).2.2.1 Tryz.underlying52 rfl (by kernel_rfl) ?_)
                | (go_at_call 75; refine Hit.out.mono ?_; rintro r w1 ⟨rfl, hb1⟩
                   have f1w1 : w1.cell? (a.add (i * 5)) = some (.string e.p) := (Hc.out w1 hb1).1
                   have q1w1 : w1.cell? (a.add (k * 5)) = some (.string q.p) := (Hc.out w1 hb1).2.2.2
                   have Hb1 := Lib.hid hb1
                   clear hb1))
              go_quiet (fail)
              have Hb2 := Lib.hid (below_drewN Hb1.out nq)
              obtain ⟨w2, hww2⟩ : ∃ x, x = w1.drewN nq := ⟨_, rfl⟩
              rw [← hww2] at Hb2 ⊢
              have f1w2 : w2.cell? (a.add (i * 5)) = some (.string e.p) := (Hc.out w2 Hb2.out).1
              have f2w2 : w2.cell? ⟨(a.add (i * 5)).block, (a.add (i * 5)).off + 3, none⟩ = some (.string e.d) := (Hc.out w2 Hb2.out).2.1
              clear hww2 Hb1
              have q1w2 : w2.cell? (a.add (k * 5)) = some (.string q.p) := (Hc.out w2 Hb2.out).2.2.2
              go_wp2_with fail
              have x1 : w2.drew.cell? (a.add (i * 5)) = some (.string e.p) := f1w2
              have x2 : w2.drew.cell? (a.add (k * 5)) = some (.string q.p) := q1w2
              go_still_tail 14, (by kernel_rfl)
              go_wp2_with (first
                | (go_at_call 63; refine (Hcmp.out _).mono ?_; rintro r w3 ⟨rfl, hb3⟩
                   have Hb3 := Lib.hid ((below_drew Hb2.out).trans (hb3.mono (below_drew Hb2.out).size))
                   have f1w3 : w3.cell? (a.add (i * 5)) = some (.string e.p) := (Hc.out w3 Hb3.out).1
                   have f2w3 : w3.cell? ⟨(a.add (i * 5)).block, (a.add (i * 5)).off + 3, none⟩ = some (.string e.d) := (Hc.out w3 Hb3.out).2.1
                   clear hb3))
              have g1 : w3.drew.cell? (a.add (i * 5)) = some (.string e.p) := f1w3
              have g2 : w3.drew.cell? ⟨(a.add (i * 5)).block, (a.add (i * 5)).off + 3, none⟩ = some (.string e.d) := f2w3
              go_still_tail 8, (by kernel_rfl)
              go_wp2_with (first
                | (go_at_call 76; refine (Hup.out _ (below_drew Hb3.out)).mono ?_; rintro r w9 ⟨rfl, hb9⟩
                   have Hb9 := Lib.hid ((below_drew Hb3.out).trans (hb9.mono (below_drew Hb3.out).size))
                   have h1 : w9.cell? ⟨(a.add (i * 5)).block, (a.add (i * 5)).off + 3, none⟩ = some (.string e.d) := (Hc.out w9 Hb9.out).2.1
                   clear hb9))
              go_ret
              exact ⟨by rw [Hno.out]; rfl, Hb9.out⟩
          · rw [if_neg h5] at hno
            have h6 : i < 4096 ∧ bb + e.d.size ≤ 16777216 := by omega
            obtain ⟨h7, h8⟩ := h6
            have Hno := Lib.hid hno
            clear hno h5
            go_enter Tryz.func62, Tryz.ntmps62
            go_wp2_with (first
              | (refine wpList_load_at rfl _ _ rfl (a.add (i * 5)) rfl [.string e.p, .int .i64 e.k, .int .i64 e.m, .string e.d, .string e.l] _ (Hc.out w (Below.refl _ _)).2.2.1 Tryz.underlying52 rfl (by kernel_rfl) ?_)
              | (go_at_call 75; refine Hit.out.mono ?_; rintro r w1 ⟨rfl, hb1⟩
                 have f1w1 : w1.cell? (a.add (i * 5)) = some (.string e.p) := (Hc.out w1 hb1).1
                 have q1w1 : w1.cell? (a.add (k * 5)) = some (.string q.p) := (Hc.out w1 hb1).2.2.2
                 have Hb1 := Lib.hid hb1
                 clear hb1))
            go_quiet (fail)
            have Hb2 := Lib.hid (below_drewN Hb1.out nq)
            obtain ⟨w2, hww2⟩ : ∃ x, x = w1.drewN nq := ⟨_, rfl⟩
            rw [← hww2] at Hb2 ⊢
            have f1w2 : w2.cell? (a.add (i * 5)) = some (.string e.p) := (Hc.out w2 Hb2.out).1
            have f2w2 : w2.cell? ⟨(a.add (i * 5)).block, (a.add (i * 5)).off + 3, none⟩ = some (.string e.d) := (Hc.out w2 Hb2.out).2.1
            clear hww2 Hb1
            have q1w2 : w2.cell? (a.add (k * 5)) = some (.string q.p) := (Hc.out w2 Hb2.out).2.2.2
            go_wp2_with fail
            have x1 : w2.drew.cell? (a.add (i * 5)) = some (.string e.p) := f1w2
            have x2 : w2.drew.cell? (a.add (k * 5)) = some (.string q.p) := q1w2
            go_still_tail 14, (by kernel_rfl)
            go_wp2_with (first
              | (go_at_call 63; refine (Hcmp.out _).mono ?_; rintro r w3 ⟨rfl, hb3⟩
                 have Hb3 := Lib.hid ((below_drew Hb2.out).trans (hb3.mono (below_drew Hb2.out).size))
                 have f1w3 : w3.cell? (a.add (i * 5)) = some (.string e.p) := (Hc.out w3 Hb3.out).1
                 have f2w3 : w3.cell? ⟨(a.add (i * 5)).block, (a.add (i * 5)).off + 3, none⟩ = some (.string e.d) := (Hc.out w3 Hb3.out).2.1
                 clear hb3))
            have g1 : w3.drew.cell? (a.add (i * 5)) = some (.string e.p) := f1w3
            have g2 : w3.drew.cell? ⟨(a.add (i * 5)).block, (a.add (i * 5)).off + 3, none⟩ = some (.string e.d) := f2w3
            go_still_tail 8, (by kernel_rfl)
            go_wp2_with (first
              | (go_at_call 76; refine (Hup.out _ (below_drew Hb3.out)).mono ?_; rintro r w9 ⟨rfl, hb9⟩
                 have Hb9 := Lib.hid ((below_drew Hb3.out).trans (hb9.mono (below_drew Hb3.out).size))
                 have h1 : w9.cell? ⟨(a.add (i * 5)).block, (a.add (i * 5)).off + 3, none⟩ = some (.string e.d) := (Hc.out w9 Hb9.out).2.1
                 clear hb9))
            go_ret
            exact ⟨by rw [Hno.out]; rfl, Hb9.out⟩
theorem one07_any (v : Value) (L : List Ent) (i : Nat) (e : Ent) (w : World) (h : EntsAt w v L) (he : L[i]? = some e) (hL : ∀ x ∈ L, x.p.size ≤ 1099511627776 ∧ x.l.size ≤ 1099511627776 ∧ x.d.size ≤ 1099511627776) (hl : L.length ≤ 1099511627776) (hby : bytesE (L.take i) ≤ 1099511627776) :
    Calls Tryz.prog 62 #[v, .int .i64 (i : Int), .int .i64 (bytesE (L.take i) : Int)] w fun r w' => r = .returned (.int .i64 (oneNo (L.take i) e : Int)) ∧ Below w.heap.size w w' := by
  cases i with
  | zero => exact one07_zero v L e w h he (hL e (List.mem_of_getElem? he))
  | succ k =>
    have hk : k + 1 < L.length := (List.getElem?_eq_some_iff.1 he).1
    have hq : L[k]? = some (L[k]'(by omega)) := List.getElem?_eq_getElem (by omega)
    exact one07_succ v L k (k + 1) _ e w h rfl hq he (fun x hx => (hL x hx).1) (hL e (List.mem_of_getElem? he)).2 hl hby
set_option maxRecDepth 100000 in
set_option maxHeartbeats 8000000 in
theorem rcheck07_any (v : Value) (L : List Ent) (w : World) (h : EntsAt w v L) (hL : ∀ x ∈ L, x.p.size ≤ 1099511627776 ∧ x.l.size ≤ 1099511627776 ∧ x.d.size ≤ 1099511627776) (hl : L.length ≤ 1099511627776) :
    Calls Tryz.prog 39 #[v] w fun r w' => r = .returned (.tuple #[.int .i64 ((checkL L).1 : Int), .int .i64 ((checkL L).2 : Int)]) ∧ Below w.heap.size w w' := by
  have hE := h
  obtain ⟨o, cap, rfl, hlc, hcm, hcells⟩ := h
  obtain ⟨n, hn⟩ : ∃ n, n = L.length := ⟨_, rfl⟩
  rw [← hn] at hE hlc hl ⊢
  have HE := Lib.hid hE
  have Hcells := Lib.hid hcells
  have Hn := Lib.hid hn
  have HL := Lib.hid hL
  clear hE hcells hn hL
  go_enter Tryz.func39, Tryz.ntmps39
  go_wp2_with fail
  go_loopw [4, 5, 6] (fun bv iv _ wr => ∃ (k : Nat), iv = .int .i64 (k : Int) ∧ bv = .int .i64 (bytesE (L.take k) : Int) ∧ k ≤ n ∧ Below w.heap.size w wr ∧ Good (L.take k) ∧ checkGo (L.take k) (L.drop k) = checkL L) (fun _ iv _ _ => n - (intOf iv).toNat)
  case atStart => exact ⟨0, rfl, rfl, Nat.zero_le _, Below.refl _ _, good_nil, rfl⟩
  case round =>
    obtain ⟨k, rfl, rfl, hk, hbr, hgood, hck⟩ := hrel
    by_cases hlt : k < n
    · obtain ⟨e, hek⟩ : ∃ e, L[k]? = some e := ⟨_, List.getElem?_eq_getElem (by rw [← Hn.out]; exact hlt)⟩
      obtain ⟨a, rfl, hal, hcs⟩ := Hcells.out k e hek
      have hby := hgood.byt
      have hone := one07_any (.slice (some a) n cap) L k e wr (HE.out.below hbr (Nat.le_refl _)) hek HL.out (by rw [← Hn.out]; exact hl) (by omega)
      have hds := (HL.out e (List.mem_of_getElem? hek)).2.2
      have hcd : ∀ W, Below wr.heap.size wr W → W.cell? ⟨(a.add (k * 5)).block, (a.add (k * 5)).off + 3, none⟩ = some (.string e.d) := fun W hW => by
        have := (entIx_of hal hcs W (hbr.trans (hW.mono hbr.size))).2.2
        rw [add_ne _ (show 3 ≠ 0 by decide)] at this
        exact this
      have Hone := Lib.hid hone
      have Hcd := Lib.hid hcd
      have Hbr := Lib.hid hbr
      have Hek := Lib.hid hek
      have Hck := Lib.hid hck
      have Hgood := Lib.hid hgood
      by_cases h0 : oneNo (L.take k) e ≠ 0
      · have hfin : checkL L = (oneNo (L.take k) e, k) := check_stop hek hck h0
        generalize oneNo (L.take k) e = N at *
        have Hfin := Lib.hid hfin
        have b1 : ((N : Int) != 0) = true := by simpa using h0
        generalize bytesE (L.take k) = bb at *
        clear hone hcd hbr hek hck hgood hfin h0 hcs
        go_wp2_with (first
          | (go_at_call 62; refine Hone.out.mono ?_; rintro r w1 ⟨rfl, hb1⟩
             have Hb1 := Lib.hid (Hbr.out.trans (hb1.mono Hbr.out.size))
             clear hb1))
        go_ret2
        exact ⟨by rw [Hfin.out]; rfl, Hb1.out⟩
      · have h0' : oneNo (L.take k) e = 0 := by omega
        rw [h0'] at Hone
        have hstep := check_step hek hck h0'
        have hg2 := Good.add hgood h0'
        rw [take_step hek] at hg2
        have hby2 : bytesE (L.take (k + 1)) = bytesE (L.take k) + e.d.size := by rw [← take_step hek, bytesE_append]; simp [bytesE]
        have Hstep := Lib.hid hstep
        have Hg2 := Lib.hid hg2
        have Hby2 := Lib.hid hby2
        obtain ⟨bb, hbb⟩ : ∃ bb, bb = bytesE (L.take k) := ⟨_, rfl⟩
        rw [← hbb] at Hone Hby2 hby ⊢
        clear hone hcd hbr hek hck hgood h0 h0' hcs hstep hg2 hby2 hbb
        go_wp2_with (first
          | (go_at_call 62; refine Hone.out.mono ?_; rintro r w1 ⟨rfl, hb1⟩
             have c1 := Hcd.out w1 hb1
             have Hb1 := Lib.hid (Hbr.out.trans (hb1.mono Hbr.out.size))
             clear hb1))
        go_roundw
        case rel => exact ⟨k + 1, by go_num, by rw [Hby2.out]; go_num, by omega, Hb1.out, Hg2.out, Hstep.out⟩
        case measure => simp [intOf]; omega
    · obtain rfl : k = n := by omega
      have hend : checkL L = (0, 0) := check_end (by rw [← Hn.out]; exact hck)
      have Hend := Lib.hid hend
      have Hbr := Lib.hid hbr
      clear hend hbr hck hgood
      generalize bytesE (L.take k) = bb at *
      go_wp2
      go_ret2
      exact ⟨by rw [Hend.out]; rfl, Hbr.out⟩
end
end Go.Proofs.YtipfccfjniglbaaGreatDoor
