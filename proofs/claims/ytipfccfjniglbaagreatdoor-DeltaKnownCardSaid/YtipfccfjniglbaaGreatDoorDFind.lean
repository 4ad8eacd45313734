/- delta.find: the binary search. -/
import Derived.Test.YtipfccfjniglbaaGreatDoorJMerge
import Derived.Test.YtipfccfjniglbaaGreatDoorJPlain
import Derived.Deep.LoopGhost
set_option linter.unusedSimpArgs false
set_option linter.unusedVariables false
namespace Go.Proofs.YtipfccfjniglbaaGreatDoor
open Go.RowKit Go.Maps Go.Shelf
open Go.Lib hiding intOf size_eq
theorem wpList_load_wanted {P : Program} {ops : Array Oper} {rest : List Oper} {o : Oper} {a : Act} {w : World} {Q : Exit → Act → World → Prop} (hw : Region.wanted o (yielded ops a.tmps) = true) (ty : TypeId) (x : Operand) (ho : o.op = .load ty x)
    (p : Addr) (hx : a.eval x = .pointer (some p)) (cs : List Value) (d : TypeDesc) (hc : ∀ j v, cs[j]? = some v → w.cell? (p.add j) = some v)
    (hu : P.underlying ty = some d) (hd : (match d with | .struct _ | .array _ _ => true | _ => false) = true) (hi : (P.info? ty).map (·.size) = some cs.length)
    (h : wpList P ops Q rest (a.put o.dst (.agg cs.toArray)) w) : wpList P ops Q (o :: rest) a w := by
  refine wpList_step fun K hK => ?_
  rw [if_pos hw]
  unfold Oper.wp execOp
  simp only [ho, hx, Instr.loadAt, Instr.sureAddr, Sem.run_bind, Sem.run_pure, Result.andThen_ok, run_load_items w p ty cs d hc hu hd hi]
  exact hK _ _ h
set_option maxRecDepth 100000 in
set_option maxHeartbeats 2000000 in
theorem find1_any (x : Ent) (p : ByteArray) (w : World) (hx : x.p.size < 4611686018427387904) (hp : p.size < 4611686018427387904) :
    Calls Tryz.prog 108 #[.agg #[.string x.p, .int .i64 x.k, .int .i64 x.m, .string x.d, .string x.l], .string p] w fun r w' => r = .returned (.int .i64 (compareP x.path p.data.toList)) ∧ Below w.heap.size w w' := by
  have hcmp := fun W => compare_any x.p p W hx hp
  rw [show compareP x.path p.data.toList = compareP x.p.data.toList p.data.toList from rfl]
  generalize compareP x.p.data.toList p.data.toList = d at *
  have Hc := Lib.hid hcmp
  clear hcmp
  go_enter Tryz.func108, Tryz.ntmps108
  go_wp2_with (go_at_call 27; refine (Hc.out _).mono ?_; rintro e w2 ⟨rfl, q, rfl⟩)
  go_ret
  exact ⟨rfl, below_drewN ((Below.refl _ _).alloc (Nat.le_refl _) _) _⟩
set_option maxRecDepth 100000 in
set_option maxHeartbeats 4000000 in
theorem bsf_any (v : Value) (L : List Ent) (p : ByteArray) (w : World) (h : EntsAt w v L) (hi : Inc L) (hs : ∀ x ∈ L, x.p.size < 4611686018427387904) (hp : p.size < 4611686018427387904) (hl : L.length < 1099511627776) :
    Calls Tryz.prog 107 #[v, .string p, .func (.func 108) #[] #[]] w fun r w' => r = .returned (.tuple #[.int .i64 (posL L p.data.toList : Int), .bool (hasL L p.data.toList)]) ∧ Below w.heap.size w w' := by
  obtain ⟨o, cap, rfl, hlc, hcm, h4⟩ := h
  have hcells : ∀ (i : Nat) e, L[i]? = some e → ∃ a, o = some a ∧ ∀ W, Below w.heap.size w W → ∀ j u, ([.string e.p, .int .i64 e.k, .int .i64 e.m, .string e.d, .string e.l] : List Value)[j]? = some u → W.cell? ((a.add (i * 5)).add j) = some u := by
    intro i e he
    obtain ⟨a, rfl, hl, hc⟩ := h4 i e he
    refine ⟨a, rfl, fun W hW j u hu => ?_⟩
    have := hc j u hu
    unfold World.cell? at this ⊢
    rw [hW.block _ (by rw [add_block, add_block]; exact hl)]
    exact this
  clear h4
  have hc1 : ∀ (x : Ent), x ∈ L → ∀ W, _ := fun x hx W => find1_any x p W (hs x hx) hp
  obtain ⟨n, hn⟩ : ∃ n, n = L.length := ⟨_, rfl⟩
  have Hn := Lib.hid hn
  rw [← hn] at hlc hl ⊢
  have Hcells := Lib.hid hcells
  have Hc1 := Lib.hid hc1
  have Hi := Lib.hid hi
  clear hn hcells hc1 hi hs
  generalize hq : p.data.toList = q at *
  have hq2 := Lib.hid hq
  clear hq
  generalize hcnt : posL L q = cnt
  generalize hfin : hasL L q = fin
  have HN := Lib.hid hcnt
  have HF := Lib.hid hfin
  clear hcnt hfin
  go_enter Tryz.func107, Tryz.ntmps107
  go_wp2
  go_loopg [9, 10] n (fun kx s9 s10 wr => ∃ lo hi : Nat, s9 = .int .i64 lo ∧ s10 = .int .i64 hi ∧ lo ≤ hi ∧ hi ≤ n ∧ hi - lo ≤ kx ∧ Hid (Below w.heap.size w wr) ∧
    Hid ((∀ t x, t < lo → L[t]? = some x → compareP x.path q < 0) ∧ (∀ t x, hi ≤ t → L[t]? = some x → ¬ compareP x.path q < 0)))
  case atStart => exact ⟨0, n, rfl, rfl, Nat.zero_le _, Nat.le_refl _, by omega, Lib.hid (Below.refl _ _), Lib.hid ⟨fun t x ht => absurd ht (Nat.not_lt_zero _), fun t x h1 h2 => by have := (List.getElem?_eq_some_iff.1 h2).1; rw [← Hn.out] at this; omega⟩⟩
  case round =>
    obtain ⟨lo, hi, rfl, rfl, hlh, hin, hg, HB, HI⟩ := hrel
    by_cases hlt : lo < hi
    · obtain ⟨x, hx⟩ : ∃ x, L[(lo + hi) / 2]? = some x := ⟨_, List.getElem?_eq_getElem (by rw [← Hn.out]; omega)⟩
      obtain ⟨a, e1, hcx⟩ := Hcells.out _ x hx
      subst e1
      have HX := Lib.hid (hcx _ HB.out)
      have HC := Lib.hid (Hc1.out x (List.mem_of_getElem? hx) wr)
      have Hx := Lib.hid hx
      have hmono := fun (t : Nat) (z : Ent) (ht : t < (lo + hi) / 2) (hz : L[t]? = some z) => inc_get Hi.out ht hz hx
      have hmono2 := fun (t : Nat) (z : Ent) (ht : (lo + hi) / 2 < t) (hz : L[t]? = some z) => inc_get Hi.out ht hx hz
      have HM := Lib.hid hmono
      have HM2 := Lib.hid hmono2
      clear hcx hx hmono hmono2
      by_cases hyx : compareP x.path q < 0
      · go_wp2_with (first
          | (refine wpList_load_items rfl _ _ rfl (a.add ((lo + hi) / 2 * 5)) rfl [.string x.p, .int .i64 x.k, .int .i64 x.m, .string x.d, .string x.l] _ HX.out Tryz.underlying52 rfl (by kernel_rfl) ?_)
          | (refine HC.out.mono ?_; rintro e w2 ⟨rfl, hb2⟩; have HB2 := Lib.hid (HB.out.trans (hb2.mono HB.out.size)); clear hb2 HC))
        go_roundg (hi - ((lo + hi) / 2 + 1))
        case measure => omega
        case rel =>
          exact ⟨(lo + hi) / 2 + 1, hi, by rw [show ((lo : Int) + (hi : Int)) / 2 + 1 = (((lo + hi) / 2 + 1 : Nat) : Int) by omega], rfl, by omega, hin, Nat.le_refl _, HB2, Lib.hid ⟨fun t z ht hz => (by
            rcases Nat.lt_or_ge t ((lo + hi) / 2) with h | h
            · exact compareP_trans (HM.out t z h hz) hyx
            · obtain rfl : t = (lo + hi) / 2 := by omega
              rw [Hx.out] at hz
              injection hz with hz
              subst hz
              exact hyx), HI.out.2⟩⟩
      · go_wp2_with (first
          | (refine wpList_load_items rfl _ _ rfl (a.add ((lo + hi) / 2 * 5)) rfl [.string x.p, .int .i64 x.k, .int .i64 x.m, .string x.d, .string x.l] _ HX.out Tryz.underlying52 rfl (by kernel_rfl) ?_)
          | (refine HC.out.mono ?_; rintro e w2 ⟨rfl, hb2⟩; have HB2 := Lib.hid (HB.out.trans (hb2.mono HB.out.size)); clear hb2 HC))
        go_roundg ((lo + hi) / 2 - lo)
        case measure => omega
        case rel =>
          exact ⟨lo, (lo + hi) / 2, rfl, by rw [show ((lo : Int) + (hi : Int)) / 2 = (((lo + hi) / 2 : Nat) : Int) by omega], by omega, by omega, Nat.le_refl _, HB2, Lib.hid ⟨HI.out.1, fun t z ht hz => (by
            rcases Nat.lt_or_ge ((lo + hi) / 2) t with h | h
            · exact Int.not_lt.1 fun hh => (by have := compareP_trans (HM2.out t z h hz) hh; omega)
            · obtain rfl : t = (lo + hi) / 2 := by omega
              rw [Hx.out] at hz
              injection hz with hz
              subst hz
              omega)⟩⟩
    · obtain rfl : hi = lo := by omega
      have hpos : posL L q = hi := posL_at L hi (by rw [← Hn.out]; exact hin) HI.out.1 HI.out.2
      have hhas : hasL L q = (match L[hi]? with | some x => decide (compareP x.path q = 0) | none => false) := by unfold hasL; rw [hpos]; cases L[hi]? <;> rfl
      rw [HN.out] at hpos
      rw [HF.out] at hhas
      subst hpos
      clear HI
      by_cases hlt2 : cnt < n
      · obtain ⟨x, hx⟩ : ∃ x, L[cnt]? = some x := ⟨_, List.getElem?_eq_getElem (by rw [← Hn.out]; exact hlt2)⟩
        obtain ⟨a, e1, hcx⟩ := Hcells.out _ x hx
        subst e1
        have HX := Lib.hid (hcx _ HB.out)
        have hc := Hc1.out x (List.mem_of_getElem? hx) wr
        rw [hx] at hhas
        simp only [] at hhas
        generalize compareP x.path q = c at *
        have HC := Lib.hid hc
        clear hcx hx hc
        by_cases hc0 : c = 0
        · obtain rfl : fin = true := by rw [hhas]; simpa using hc0
          clear hhas
          subst hc0
          go_wp2_with (first
            | (refine wpList_load_wanted (by rfl) _ _ rfl (a.add (cnt * 5)) rfl [.string x.p, .int .i64 x.k, .int .i64 x.m, .string x.d, .string x.l] _ HX.out Tryz.underlying52 rfl (by kernel_rfl) ?_)
            | (refine HC.out.mono ?_; rintro e w2 ⟨rfl, hb2⟩; have HB2 := Lib.hid (HB.out.trans (hb2.mono HB.out.size)); clear hb2 HC))
          go_ret2
          exact ⟨rfl, HB2.out⟩
        · have hb0 : (c == 0) = false := by simp [hc0]
          obtain rfl : fin = false := by rw [hhas]; simpa using hc0
          clear hhas
          go_wp2_with (first
            | (refine wpList_load_wanted (by rfl) _ _ rfl (a.add (cnt * 5)) rfl [.string x.p, .int .i64 x.k, .int .i64 x.m, .string x.d, .string x.l] _ HX.out Tryz.underlying52 rfl (by kernel_rfl) ?_)
            | (refine HC.out.mono ?_; rintro e w2 ⟨rfl, hb2⟩; have HB2 := Lib.hid (HB.out.trans (hb2.mono HB.out.size)); clear hb2 HC))
          go_ret2
          exact ⟨rfl, HB2.out⟩
      · rw [List.getElem?_eq_none (by rw [← Hn.out]; omega)] at hhas
        simp only [] at hhas
        subst hhas
        go_wp2
        go_ret2
        exact ⟨rfl, HB.out⟩
set_option maxRecDepth 100000 in
/-- delta.find -/
theorem dfind_any (v : Value) (L : List Ent) (p : ByteArray) (w : World) (h : EntsAt w v L) (hi : Inc L) (hs : ∀ x ∈ L, x.p.size < 4611686018427387904) (hp : p.size < 4611686018427387904) (hl : L.length < 1099511627776) :
    Calls Tryz.prog 79 #[v, .string p] w fun r w' => r = .returned (.tuple #[.int .i64 (posL L p.data.toList : Int), .bool (hasL L p.data.toList)]) ∧ Below w.heap.size w w' := by
  have hb := bsf_any v L p w h hi hs hp hl
  generalize posL L p.data.toList = n at *
  generalize hasL L p.data.toList = b at *
  have HB := Lib.hid hb
  clear hb h
  go_enter Tryz.func79, Tryz.ntmps79
  go_wp2_with (go_at_call 107; refine HB.out.mono ?_; rintro e w1 ⟨rfl, hb1⟩; have HB1 := Lib.hid hb1; clear hb1)
  go_ret2
  exact ⟨rfl, HB1.out⟩
end Go.Proofs.YtipfccfjniglbaaGreatDoor
