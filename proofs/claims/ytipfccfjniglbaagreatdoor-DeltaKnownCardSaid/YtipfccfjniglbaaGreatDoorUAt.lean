/- The contracts of errors.Is, errors.As, stratakit.Num, Place and At at an error with a place. -/
import Derived.Test.YtipfccfjniglbaaGreatDoorPlain
import Derived.Test.YtipfccfjniglbaaGreatDoorRGoes
import Derived.OwnWalk
set_option linter.unusedSimpArgs false
set_option linter.unusedVariables false
namespace Go.Proofs.YtipfccfjniglbaaGreatDoor
open Go.RowKit Go.Extern.Stop Go.Stop Go.Extern
def fltC (n line at_ : Int) : List Value := [.int .i64 n, .int .i64 line, .int .i64 at_]
def fltV (n line at_ : Int) : Value := .iface 92 (.agg #[.int .i64 n, .int .i64 line, .int .i64 at_])
theorem Tryz.flNoIs (v : Value) (xT : TypeId) (w : World) : (Instr.typeAssert (.iface 92 v) xT 157 true).run Tryz.prog w = .ok (.tuple #[.nilIface, .bool false]) w := run_typeAssert_lacksB Tryz.underlying157 (by kernel_rfl) (by kernel_rfl) v xT w
theorem Tryz.flUnwrap (v : Value) (xT : TypeId) (w : World) : (Instr.typeAssert (.iface 92 v) xT 160 true).run Tryz.prog w = .ok (.tuple #[.iface 92 v, .bool true]) w := run_typeAssert_hasB Tryz.underlying160 (by kernel_rfl) v xT w
theorem Tryz.flMethodUnwrap (v : Value) (w : World) : (Go.method 317 92 v "Unwrap").run Tryz.prog w = .ok (165, v) w := by kernel_rfl
set_option maxRecDepth 100000 in
set_option maxHeartbeats 2000000 in
theorem is_fault (m l a n : Int) (w : World) :
    Calls Tryz.prog 58 #[fltV m l a, .iface 75 (.int .i64 n)] w fun e w' => e = .returned (.bool (m == n)) ∧ Below w.heap.size w w' := by
  unfold fltV
  obtain ⟨i, hi, hcmp⟩ := Option.map_eq_some_iff.1 Tryz.erComp
  have tT := Tryz.erCallTypeOf
  have cT := Tryz.erCallComparable
  have mR := Tryz.erMethodComparable
  have nE := Tryz.erNoIs
  have uE := Tryz.erNoUnwrap
  have vE := Tryz.erNoUnwraps
  have nF := Tryz.flNoIs
  have uF := Tryz.flUnwrap
  have mF := Tryz.flMethodUnwrap
  have hne := fun (v v2 : Value) (W : World) => run_eql_iface_types (P := Tryz.prog) 92 75 v v2 Tryz.underlying30 (by decide) W
  have heq := fun W => run_eql_iface_int (P := Tryz.prog) W m n Tryz.underlying30 Tryz.underlying75 hi hcmp
  by_cases hmn : (m == n) = true
  · rw [hmn] at heq ⊢
    clear hmn
    go_enter Tryz.func58, Tryz.ntmps58
    go_wp2
    refine wp_loop_rounds 2 ?_
    rw [rounds_succ]
    go_wp2
    rw [rounds_succ]
    go_wp2
    go_ret
    exact ⟨rfl, (Below.refl _ _).alloc (Nat.le_refl _) _⟩
  · have hmn : (m == n) = false := by simpa using hmn
    rw [hmn] at heq ⊢
    clear hmn
    go_enter Tryz.func58, Tryz.ntmps58
    go_wp2
    refine wp_loop_rounds 2 ?_
    rw [rounds_succ]
    go_wp2
    rw [rounds_succ]
    go_wp2
    go_ret
    exact ⟨rfl, (Below.refl _ _).alloc (Nat.le_refl _) _⟩
theorem Tryz.flValueOf (a b c : Int) (w : World) : (callFunc 99 #[.iface 92 (.agg #[.int .i64 a, .int .i64 b, .int .i64 c])]).run Tryz.prog w
    = .ok (.value (.agg #[.pointer (some ⟨2, 92, none⟩), .pointer (some ⟨w.heap.size, 0, none⟩), .int .u64 153])) (w.alloc (.cells #[.int .i64 a, .int .i64 b, .int .i64 c] 92)) := by kernel_rfl
theorem Tryz.flAssign (w : World) : (callFunc 171 #[.agg #[.pointer (some ⟨2, 92, none⟩)], .iface 155 (.agg #[.pointer (some ⟨2, 92, none⟩)])]).run Tryz.prog w = .ok (.value (.bool true)) w := by kernel_rfl
theorem Tryz.flTypeOf (v : Value) (w : World) : (callFunc 94 #[.iface 92 v]).run Tryz.prog w = .ok (.value (.iface 155 (.agg #[.pointer (some ⟨2, 92, none⟩)]))) w := by kernel_rfl
theorem Tryz.flMk (p : Addr) (w : World) : (ReflectliteValue.mk 92 p 256).run Tryz.prog w = .ok (.agg #[.pointer (some ⟨2, 92, none⟩), .pointer (some p), .int .u64 409]) w := by kernel_rfl
theorem Tryz.flElemT (w : World) : (Go.Extern.Rtype.elem? 94).run Tryz.prog w = .ok (some 92) w := by kernel_rfl
theorem Tryz.flElem (a p : Addr) (W : World) (ha : W.cell? a = some (.pointer (some p))) :
    (callFunc 120 #[.agg #[.pointer (some ⟨2, 94, none⟩), .pointer (some a), .int .u64 150]]).run Tryz.prog W = .ok (.value (.agg #[.pointer (some ⟨2, 92, none⟩), .pointer (some p), .int .u64 409])) W := by
  rw [@run_callFunc_extern Tryz.prog 120 _ (ReflectliteValue.method (ReflectliteValue.valueError "reflectlite.Value.Elem" 0) ReflectliteValue.elem) Tryz.func120 (by kernel_rfl) (by kernel_rfl) (by kernel_rfl) (by kernel_rfl)]
  rw [rlm]
  simp only [Sem.run_bind, Tryz.eaParts, Result.andThen]
  simp [ReflectliteValue.elem, loadVar, isAgg, underlying, Tryz.underlying94, ha, Result.andThen, Tryz.flElemT, ReflectliteValue.flagAddr, Tryz.flMk]
theorem Tryz.flPartsD (a : Addr) (w : World) : (ReflectliteValue.parts (.agg #[.pointer (some ⟨2, 92, none⟩), .pointer (some a), .int .u64 409])).run Tryz.prog w = .ok (some (92, a, 409)) w := by kernel_rfl
theorem Tryz.flPartsS (a : Addr) (w : World) : (ReflectliteValue.parts (.agg #[.pointer (some ⟨2, 92, none⟩), .pointer (some a), .int .u64 153])).run Tryz.prog w = .ok (some (92, a, 153)) w := by kernel_rfl
theorem Tryz.flDirect (w : World) : (Go.Extern.Rtype.directlyAssignable 92 92).run Tryz.prog w = .ok true w := by kernel_rfl
theorem Tryz.flSet (t b : Nat) (old cs : Array Value) (W : World) (ht : W.heap[t]? = some (.cells old 92 (0, 0))) (hb : W.heap[b]? = some (.cells cs 92 (0, 0))) (ho : old.size = 3) (hc : cs.size = 3) (h1 : cs.all (·.oneCell') = true) :
    (callFunc 121 #[.agg #[.pointer (some ⟨2, 92, none⟩), .pointer (some ⟨t, 0, none⟩), .int .u64 409], .agg #[.pointer (some ⟨2, 92, none⟩), .pointer (some ⟨b, 0, none⟩), .int .u64 153]]).run Tryz.prog W = .ok (.value (.tuple #[])) (W.setRow t cs) := by
  have hi : (Tryz.prog.info? 92).map (·.size) = some 3 := by kernel_rfl
  have hl := run_loadVar_row (P := Tryz.prog) W b 92 92 cs (0, 0) _ hb Tryz.underlying92 rfl (by rw [hc]; exact hi)
  have hs := run_storeVar_row (P := Tryz.prog) W t 92 92 old cs ht (by rw [hc]; exact hi) (by rw [ho, hc]) h1
  rw [@run_callFunc_extern Tryz.prog 121 _ ReflectliteValue.set Tryz.func121 (by kernel_rfl) (by kernel_rfl) (by kernel_rfl) (by kernel_rfl)]
  delta ReflectliteValue.set ReflectliteValue.set.match_3
  dsimp
  have g0 : ∀ (x y : Value) (h1 : (#[x, y] : Array Value).size = 2) (h2 : 0 < 2), (#[x, y] : Array Value).getLit 0 h1 h2 = x := fun _ _ _ _ => rfl
  have g1 : ∀ (x y : Value) (h1 : (#[x, y] : Array Value).size = 2) (h2 : 1 < 2), (#[x, y] : Array Value).getLit 1 h1 h2 = y := fun _ _ _ _ => rfl
  simp [g0, g1, Sem.run_bind, Tryz.flPartsD, Tryz.flPartsS, Result.andThen, ReflectliteValue.flagAddr, hl, Tryz.flDirect, hs]
set_option maxRecDepth 100000 in
set_option maxHeartbeats 4000000 in
theorem as_fault (n l a : Int) (t : Nat) (old : Array Value) (w : World) (hg : w.cell? ⟨0, 0, none⟩ = some (.iface 155 (.agg #[.pointer (some ⟨2, 30, none⟩)]))) (ht : w.heap[t]? = some (.cells old 92 (0, 0))) (ho : old.size = 3) :
    Calls Tryz.prog 66 #[fltV n l a, .iface 94 (.pointer (some ⟨t, 0, none⟩))] w fun e w' => e = .returned (.bool true) ∧ w'.heap[t]? = some (.cells #[.int .i64 n, .int .i64 l, .int .i64 a] 92 (0, 0)) ∧ But [t] w w' := by
  unfold fltV
  have tT := Tryz.flTypeOf
  have f1 := Tryz.eaValueOf
  have f1b := Tryz.flValueOf
  have f2 := Tryz.eaType
  have f3 := Tryz.eaMethodKind
  have f4 := Tryz.eaMethodElem
  have f5 := Tryz.eaMethodImplements
  have f6 := Tryz.eaMethodAssignableTo
  have f7 := Tryz.eaKindP
  have f8 := Tryz.eaKindF
  have f9 := Tryz.eaElem
  have f10 := Tryz.eaImplements
  have f11 := Tryz.flAssign
  have n8 := Tryz.eaIsNil ⟨w.heap.size, 0, none⟩ ⟨t, 0, none⟩ ((w.alloc (.cells #[.pointer (some ⟨t, 0, none⟩)] 94)).alloc (.cells #[.pointer (some ⟨2, 94, none⟩), .pointer (some ⟨w.heap.size, 0, none⟩), .int .u64 150] 129)) (by simp)
  have hlt : 0 < w.heap.size := by
    rcases Nat.lt_or_ge 0 w.heap.size with h | h
    · exact h
    · simp [World.cell?, Array.getElem?_eq_none h] at hg
  have hg2 : ((w.alloc (.cells #[.pointer (some ⟨t, 0, none⟩)] 94)).alloc (.cells #[.pointer (some ⟨2, 94, none⟩), .pointer (some ⟨w.heap.size, 0, none⟩), .int .u64 150] 129)).cell? ⟨0, 0, none⟩ = some (.iface 155 (.agg #[.pointer (some ⟨2, 30, none⟩)])) := by
    rw [World.cell?_alloc_lt _ _ ⟨0, 0, none⟩ (by simp only [World.size_alloc]; omega), World.cell?_alloc_lt _ _ ⟨0, 0, none⟩ hlt]; exact hg
  have htl := heap_lt ht
  obtain ⟨W3, hW3⟩ : ∃ x, x = ((w.alloc (.cells #[.pointer (some ⟨t, 0, none⟩)] 94)).alloc (.cells #[.pointer (some ⟨2, 94, none⟩), .pointer (some ⟨w.heap.size, 0, none⟩), .int .u64 150] 129)).alloc (.cells #[.pointer (some ⟨2, 94, none⟩), .pointer (some ⟨w.heap.size, 0, none⟩), .int .u64 150] 129) := ⟨_, rfl⟩
  have hs3 : W3.heap.size = w.heap.size + 1 + 1 + 1 := by rw [hW3]; simp
  have hc3 : W3.cell? ⟨w.heap.size, 0, none⟩ = some (.pointer (some ⟨t, 0, none⟩)) := by
    rw [hW3, World.cell?_alloc_lt _ _ _ (by simp only [World.size_alloc]; omega), World.cell?_alloc_lt _ _ _ (by simp only [World.size_alloc]; omega)]
    unfold World.cell?
    rw [World.alloc_heap_new]
    rfl
  have n9 := Tryz.flElem ⟨w.heap.size, 0, none⟩ ⟨t, 0, none⟩ W3 hc3
  have hb3 : Below w.heap.size w W3 := by rw [hW3]; exact (((Below.refl _ _).alloc (Nat.le_refl _) _).alloc (by simp) _).alloc (by simp; omega) _
  have ht4 : (W3.alloc (.cells #[.int .i64 n, .int .i64 l, .int .i64 a] 92)).heap[t]? = some (.cells old 92 (0, 0)) := (heap_alloc_old W3 _ (by omega)).trans ((hb3.block t htl).trans ht)
  have hn4 := World.alloc_heap_new W3 (.cells #[.int .i64 n, .int .i64 l, .int .i64 a] 92)
  have n10 := Tryz.flSet t W3.heap.size old #[.int .i64 n, .int .i64 l, .int .i64 a] _ ht4 hn4 ho rfl (by simp [Value.oneCell'])
  have fin : ((W3.alloc (.cells #[.int .i64 n, .int .i64 l, .int .i64 a] 92)).setRow t #[.int .i64 n, .int .i64 l, .int .i64 a]).heap[t]? = some (.cells #[.int .i64 n, .int .i64 l, .int .i64 a] 92 (0, 0)) ∧ But [t] w ((W3.alloc (.cells #[.int .i64 n, .int .i64 l, .int .i64 a] 92)).setRow t #[.int .i64 n, .int .i64 l, .int .i64 a]) := by
    refine ⟨setRow_heap _ t _ _ _ _ ht4, ?_⟩
    have hb4 := hb3.alloc hb3.size (.cells #[.int .i64 n, .int .i64 l, .int .i64 a] 92)
    exact ⟨hb4.os, hb4.tape, hb4.output, by simpa using hb4.size, fun k hk hkt => (setRow_other _ t k _ (by simpa using hkt)).trans (hb4.block k hk)⟩
  rw [hs3] at n10
  rw [hW3] at n9 n10 fin
  have Fin := Lib.hid fin
  clear fin hb3 ht4 hn4 hc3 hs3 hW3
  go_enter Tryz.func66, Tryz.ntmps66
  go_wp2
  refine wp_loop_rounds 1 ?_
  rw [rounds_succ]
  go_wp2
  go_ret
  exact ⟨rfl, Fin.out⟩
set_option maxRecDepth 100000 in
set_option maxHeartbeats 4000000 in
theorem num_fault (n : Nat) (l a : Int) (w : World) (h1 : 1 ≤ n) (h2 : n ≤ 32) : Calls Tryz.prog 30 #[fltV n l a] w fun e w' => e = .returned (.int .i64 (n : Int)) ∧ Below w.heap.size w w' := by
  unfold fltV
  go_enter Tryz.func30, Tryz.ntmps30
  go_wp2_with fail
  go_loopw [3, 4] (fun f i wr => ∃ k : Nat, 1 ≤ k ∧ k ≤ 33 ∧ i = .int .i64 k ∧ ((k ≤ n ∧ f = .int .i64 0) ∨ (n < k ∧ f = .int .i64 n)) ∧ Below w.heap.size w wr) (fun _ i _ => 33 - (intOf i).toNat)
  case atStart => exact ⟨1, by omega, by omega, rfl, .inl ⟨h1, rfl⟩, Below.refl _ _⟩
  case round =>
    obtain ⟨k, hk1, hk2, rfl, hf, hb⟩ := hrel
    have Hb := Lib.hid hb
    clear hb
    by_cases hlt : k ≤ 32
    · by_cases he : k = n
      · subst he
        obtain ⟨_, rfl⟩ : k ≤ k ∧ _ := by
          rcases hf with h | h
          · exact h
          · exact absurd h.1 (by omega)
        have hi := is_fault (k : Int) l a (k : Int) wr
        rw [show ((k : Int) == (k : Int)) = true from by simp] at hi
        have Hi := Lib.hid hi
        clear hi
        go_wp2_with (go_at_call 58; refine (Hi.out).mono ?_; rintro e w' ⟨rfl, hb1⟩; have Hb1 := Lib.hid (Hb.out.trans (hb1.mono Hb.out.size)); clear hb1)
        go_roundw
        case rel => exact ⟨k + 1, by omega, by omega, by go_num, .inr ⟨by omega, rfl⟩, Hb1.out⟩
        case measure => simp [intOf]; omega
      · have hi := is_fault (n : Int) l a (k : Int) wr
        rw [show ((n : Int) == (k : Int)) = false from by simp; omega] at hi
        have Hi := Lib.hid hi
        clear hi
        rcases hf with ⟨hf, rfl⟩ | ⟨hf, rfl⟩
        · go_wp2_with (go_at_call 58; refine (Hi.out).mono ?_; rintro e w' ⟨rfl, hb1⟩; have Hb1 := Lib.hid (Hb.out.trans (hb1.mono Hb.out.size)); clear hb1)
          go_roundw
          case rel => exact ⟨k + 1, by omega, by omega, by go_num, .inl ⟨by omega, rfl⟩, Hb1.out⟩
          case measure => simp [intOf]; omega
        · go_wp2_with (go_at_call 58; refine (Hi.out).mono ?_; rintro e w' ⟨rfl, hb1⟩; have Hb1 := Lib.hid (Hb.out.trans (hb1.mono Hb.out.size)); clear hb1)
          go_roundw
          case rel => exact ⟨k + 1, by omega, by omega, by go_num, .inr ⟨by omega, rfl⟩, Hb1.out⟩
          case measure => simp [intOf]; omega
    · obtain ⟨_, rfl⟩ : n < k ∧ _ := by
        rcases hf with h | h
        · exact absurd h.1 (by omega)
        · exact h
      have hi := is_fault (n : Int) l a 0 wr
      rw [show ((n : Int) == 0) = false from by simp; omega] at hi
      have Hi := Lib.hid hi
      clear hi
      have b1 : ((n : Int) == 0) = false := by simp; omega
      go_wp2_with (go_at_call 58; refine (Hi.out).mono ?_; rintro e w' ⟨rfl, hb1⟩; have Hb1 := Lib.hid (Hb.out.trans (hb1.mono Hb.out.size)); clear hb1)
      go_ret
      exact ⟨rfl, Hb1.out⟩
set_option maxRecDepth 100000 in
set_option maxHeartbeats 4000000 in
theorem place_fault (n : Nat) (l a : Int) (w : World) (h1 : 1 ≤ n) (h2 : n ≤ 32) (hg : Handle w) : Calls Tryz.prog 59 #[fltV n l a] w fun e w' => e = .returned (.tuple #[.int .i64 l, .int .i64 a, .bool true]) ∧ Below w.heap.size w w' := by
  have has := as_fault n l a w.heap.size #[.int .i64 0, .int .i64 0, .int .i64 0] (w.alloc (.cells #[.int .i64 0, .int .i64 0, .int .i64 0] 92)) (hg.alloc _).1 (World.alloc_heap_new _ _) rfl
  have hnum := fun W => num_fault n l a W h1 h2
  have Has := Lib.hid has
  have Hnum := Lib.hid hnum
  obtain ⟨m, hm⟩ : ∃ m : Int, m = n := ⟨_, rfl⟩
  rw [← hm] at Has Hnum ⊢
  have b1 : (m == m) = true := by simp
  clear has hnum hm
  unfold fltV at *
  go_enter Tryz.func59, Tryz.ntmps59
  go_wp2_with (first
    | (go_at_call 66; refine Has.out.mono ?_; rintro e w1 ⟨rfl, ht1, hbut⟩
       have hcs : ∀ W, Below w1.heap.size w1 W → W.cell? ⟨w.heap.size, 0, none⟩ = some (.int .i64 m) ∧ W.cell? ⟨w.heap.size, 1, none⟩ = some (.int .i64 l) ∧ W.cell? ⟨w.heap.size, 2, none⟩ = some (.int .i64 a) := (fun W hW => (by
         have h3 := (hW.block w.heap.size (heap_lt ht1)).trans ht1
         refine ⟨?_, ?_, ?_⟩ <;> (unfold World.cell?; rw [h3]; rfl)))
       have Hcs := Lib.hid hcs
       have Hb1 := Lib.hid (show Below w.heap.size w w1 from (by
         have h4 := ((But.refl [w.heap.size] w).alloc (.cells #[.int .i64 0, .int .i64 0, .int .i64 0] 92)).trans hbut (fun i hi => .inl hi)
         exact h4.to_below (Nat.le_refl _) (fun k hk => (by rw [List.mem_singleton.1 hk]; exact Nat.le_refl _))))
       clear hcs ht1 hbut))
  obtain ⟨d1, d2, d3⟩ := Hcs.out w1.drew (below_drew (Below.refl _ _))
  go_region_law (first
    | (go_simp; go_at_call 30; refine (Hnum.out _).mono ?_; rintro e w2 ⟨rfl, hb2⟩
       obtain ⟨e1, e2, e3⟩ := Hcs.out w2 ⟨hb2.os, hb2.tape, hb2.output, hb2.size, hb2.block⟩
       have Hb2 := Lib.hid (Hb1.out.trans (show Below w.heap.size w1 w2 from ⟨hb2.os, hb2.tape, hb2.output, hb2.size, fun k hk => hb2.block k (Nat.lt_of_lt_of_le hk Hb1.out.size)⟩))
       clear hb2))
  all_goals go_wp2_with fail
  all_goals go_ret3
  all_goals exact ⟨rfl, Hb2.out⟩
set_option maxRecDepth 100000 in
theorem at_ok (line at_ : Int) (w : World) : Calls Tryz.prog 36 #[.nilIface, .int .i64 0, .int .i64 line, .int .i64 at_] w fun e w' => e = .returned (.bool true) ∧ w = w' := by
  go_enter Tryz.func36, Tryz.ntmps36
  go_wp2
  go_ret
  exact ⟨rfl, rfl⟩
set_option maxRecDepth 100000 in
set_option maxHeartbeats 4000000 in
theorem at_fault (n : Nat) (l a : Int) (w : World) (h1 : 1 ≤ n) (h2 : n ≤ 32) (hg : Handle w) : Calls Tryz.prog 36 #[fltV n l a, .int .i64 n, .int .i64 l, .int .i64 a] w fun e w' => e = .returned (.bool true) ∧ Below w.heap.size w w' := by
  have Hpl := Lib.hid (place_fault n l a w h1 h2 hg)
  have Hnum := Lib.hid (fun W => num_fault n l a W h1 h2)
  have b0 : ((n : Int) == 0) = false := by simp; omega
  obtain ⟨m, hm⟩ : ∃ m : Int, m = n := ⟨_, rfl⟩
  rw [← hm] at Hpl Hnum b0 ⊢
  have b1 : (m == m) = true := by simp
  have b2 : (l == l) = true := by simp
  have b3 : (a == a) = true := by simp
  clear hm hg
  unfold fltV at *
  go_enter Tryz.func36, Tryz.ntmps36
  go_wp2_with (first
    | (go_at_call 59; refine Hpl.out.mono ?_; rintro e w1 ⟨rfl, hb1⟩; have Hb1 := Lib.hid hb1; clear hb1)
    | (go_at_call 30; refine (Hnum.out _).mono ?_; rintro e w2 ⟨rfl, hb2⟩; have Hb2 := Lib.hid (Hb1.out.trans (hb2.mono Hb1.out.size)); clear hb2))
  go_ret
  exact ⟨rfl, Hb2.out⟩
end Go.Proofs.YtipfccfjniglbaaGreatDoor
