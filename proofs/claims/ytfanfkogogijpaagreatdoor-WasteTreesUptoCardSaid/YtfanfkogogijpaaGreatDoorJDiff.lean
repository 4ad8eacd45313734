/- Joined: what these texts prove stands at the head of each part: DKit, DFault, DDiff. -/
import Derived.Test.YtfanfkogogijpaaGreatDoorUAt
import Derived.Test.YtfanfkogogijpaaGreatDoorULent
import Derived.Test.YtfanfkogogijpaaGreatDoorTPutW
import Derived.Test.YtfanfkogogijpaaGreatDoorROf
import Derived.Test.YtfanfkogogijpaaGreatDoorGRows
import Derived.Test.YtfanfkogogijpaaGreatDoorJMerge
import Derived.Lib.QuietBelow
set_option linter.unusedSimpArgs false
set_option linter.unusedVariables false
namespace Go.Proofs.YtfanfkogogijpaaGreatDoor
section
open Go.RowKit Go.Maps Go.Shelf Go.Sort
open Go.Lib hiding intOf size_eq
/-- tree.Check -/
def errT (L : List Ent) : Value := if (checkL L).1 = 0 then .nilIface else fltV ((checkL L).1 : Int) 0 ((checkL L).2 : Int)
set_option maxRecDepth 100000 in
theorem tcheck_any (v : Value) (L : List Ent) (w : World) (h : EntsAt w v L) (hb : Small L) : Calls Tryz.prog 4 #[v] w fun r w' => r = .returned (errT L) ∧ Below w.heap.size w w' := by
  have H := Lib.hid (build_any v L w h hb)
  obtain ⟨o, cap, rfl, _, _, _⟩ := h
  unfold errT
  by_cases hc : (checkL L).1 = 0
  · rw [if_pos hc]
    go_enter Tryz.func4, Tryz.ntmps4
    go_wp2_with (go_at_call 8; refine H.out.mono ?_; rintro r w1 ⟨h1, h2, h3⟩; obtain ⟨T, rt, rm, nd, rfl, ht, he⟩ := h1 hc
                 have H3 := Lib.hid h3
                 clear h1 h2 h3 ht he)
    go_ret
    exact ⟨rfl, H3.out⟩
  · rw [if_neg hc]
    unfold fltV
    go_enter Tryz.func4, Tryz.ntmps4
    go_wp2_with (go_at_call 8; refine H.out.mono ?_; rintro r w1 ⟨h1, h2, h3⟩; obtain rfl := h2 hc
                 have H3 := Lib.hid h3
                 clear h1 h2 h3)
    go_ret
    exact ⟨rfl, H3.out⟩
theorem quiet_load_guard {P : Program} {ops : Array Oper} {C : World → Prop} {rest : List Oper} {o : Oper} {a : Act} {Q : Act → Prop} (hw : Region.wanted o (yielded ops a.tmps) = true) (ty : TypeId) (x : Operand) (ho : o.op = .load ty x)
    (p : Addr) (hx : a.eval x = .pointer (some p)) (cs : List Value) (d : TypeDesc) (hc : ∀ w, C w → ∀ j v, cs[j]? = some v → w.cell? (p.add j) = some v)
    (hu : P.underlying ty = some d) (hd : (match d with | .struct _ | .array _ _ => true | _ => false) = true) (hi : (P.info? ty).map (·.size) = some cs.length)
    (h : wpQuiet P ops C Q rest (a.put o.dst (.agg cs.toArray))) : wpQuiet P ops C Q (o :: rest) a := by
  refine wpQuiet_step (fun K hK => ?_)
  rw [if_pos hw]
  refine ⟨.agg cs.toArray, fun w hC => ?_, hK _ h⟩
  unfold Oper.quietAt execOp
  simp only [ho, hx, Instr.loadAt, Instr.sureAddr, Sem.run_bind, Sem.run_pure, Result.andThen_ok, run_loadVar_at w p ty cs d (hc w hC) hu hd hi]
  exact ⟨rfl, rfl⟩
theorem one_of_good {seen r : List Ent} {e : Ent} (h : Good (seen ++ e :: r)) : oneNo seen e = 0 := by
  have hinc := h.inc
  obtain ⟨i1, i2, i3⟩ := List.pairwise_append.1 hinc
  have he : e ∈ seen ++ e :: r := by simp
  have hit := h.it e he
  have hne : ∀ x ∈ seen, compareP x.path e.path < 0 := fun x hx => i3 x hx e (List.mem_cons_self ..)
  have hup : upNo seen e.path = 0 := by
    have hu := h.up e he
    unfold upNo at hu ⊢
    by_cases h0 : parent e.path = []
    · rw [if_pos h0]
    rw [if_neg h0] at hu ⊢
    cases hl : lookE (seen ++ e :: r) (parent e.path) with
    | none => rw [hl] at hu; cases hu
    | some z =>
      rw [hl] at hu
      obtain ⟨hz, hzp⟩ := lookE_some hl
      have hn := checkNo_neat (itselfNo_check hit)
      have hless : compareP z.path e.path < 0 := by rw [hzp]; exact under_less h0 (under_kid hn rfl)
      have hzs : z ∈ seen := by
        rcases List.mem_append.1 hz with hz | hz
        · exact hz
        · exfalso
          rcases List.mem_cons.1 hz with rfl | hz
          · exact compareP_irrefl _ hless
          · exact compareP_irrefl _ (compareP_trans hless ((List.pairwise_cons.1 i2).1 z hz))
      rw [← hzp, lookE_mem i1 hzs]
      exact hu
  have hlen := h.len
  have hbyt := h.byt
  rw [List.length_append, List.length_cons] at hlen
  rw [bytesE_append, bytesE_cons] at hbyt
  have hfull : ¬ (4096 ≤ seen.length ∨ 16777216 < bytesE seen + e.d.size) := by omega
  unfold oneNo
  rw [if_neg (by omega)]
  cases hl : seen.getLast? with
  | none =>
    simp only []
    rw [if_neg (by omega), if_neg hfull]
  | some q =>
    have hq := hne q (List.mem_of_getLast? hl)
    simp only []
    rw [if_neg (fun e2 => by rw [e2] at hq; exact compareP_irrefl _ hq), if_neg (by omega), if_neg (by omega), if_neg hfull]
theorem check_good : ∀ (r seen : List Ent), Good (seen ++ r) → checkGo seen r = (0, 0)
  | [], _, _ => rfl
  | e :: r, seen, h => by
    unfold checkGo
    rw [if_neg (by rw [one_of_good h]; exact fun x => x rfl)]
    exact check_good r (seen ++ [e]) (by rw [List.append_assoc]; exact h)
theorem Good.check {l : List Ent} (h : Good l) : checkL l = (0, 0) := check_good l [] h
end
end Go.Proofs.YtfanfkogogijpaaGreatDoor
namespace Go.Proofs.YtfanfkogogijpaaGreatDoor
section
open Go.RowKit Go.Maps Go.Shelf
open Go.Lib hiding intOf size_eq
set_option maxRecDepth 100000 in
set_option maxHeartbeats 4000000 in
/-- what is wrong with a tree, at a line -/
theorem fault_flt (n l a line at_ : Int) (w : World) (hg : Handle w) : Calls Tryz.prog 9 #[fltV n l a, .int .i64 line, .int .i64 at_] w fun e w' => e = .returned (fltV n line a) ∧ Below w.heap.size w w' := by
  have has := as_fault n l a w.heap.size #[.int .i64 0, .int .i64 0, .int .i64 0] (w.alloc (.cells #[.int .i64 0, .int .i64 0, .int .i64 0] 71)) (hg.alloc _).1 (World.alloc_heap_new _ _) rfl
  have Has := Lib.hid has
  clear has
  unfold fltV at *
  go_enter Tryz.func9, Tryz.ntmps9
  go_wp2_with (first
    | (go_at_call 24; go_loud (refine Has.out.mono ?_); rintro e w1 ⟨rfl, ht1, hbut⟩
       have c0 : w1.cell? ⟨w.heap.size, 0, none⟩ = some (.int .i64 n) := block_cell (j := 0) ht1 rfl
       have c2 : w1.cell? ⟨w.heap.size, 2, none⟩ = some (.int .i64 a) := block_cell (j := 2) ht1 rfl
       have Hb1 := Lib.hid (show Below w.heap.size w w1 from (by
         have h4 := ((But.refl [w.heap.size] w).alloc (.cells #[.int .i64 0, .int .i64 0, .int .i64 0] 71)).trans hbut (fun i hi => .inl hi)
         exact h4.to_below (Nat.le_refl _) (fun k hk => (by rw [List.mem_singleton.1 hk]; exact Nat.le_refl _))))
       clear ht1 hbut))
  go_ret
  exact ⟨rfl, Hb1.out⟩
@[go_sem] theorem Tryz.asErrno (n : Int) (w : World) : (Instr.typeAssert (.iface 65 (.int .i64 n)) 26 65 false).run Tryz.prog w = .ok (.int .i64 n) w := by kernel_rfl
set_option maxRecDepth 100000 in
set_option maxHeartbeats 4000000 in
/-- a number, at a line and a place -/
theorem fault_num (n line at_ : Int) (w : World) (hg : Handle w) : Calls Tryz.prog 9 #[.iface 65 (.int .i64 n), .int .i64 line, .int .i64 at_] w fun e w' => e = .returned (fltV n line at_) ∧ Below w.heap.size w w' := by
  have has := as_num n ⟨w.heap.size, 0, none⟩ (w.alloc (.cells #[.int .i64 0, .int .i64 0, .int .i64 0] 71)) (hg.alloc _).1
  have Has := Lib.hid has
  clear has
  unfold fltV
  go_enter Tryz.func9, Tryz.ntmps9
  go_wp2_with (first
    | (go_at_call 24; go_loud (refine Has.out.mono ?_); rintro e w1 ⟨rfl, hb⟩
       have Hb1 := Lib.hid (show Below w.heap.size w w1 from (((Below.refl _ w).alloc (Nat.le_refl _) _).trans (hb.mono (by rw [World.size_alloc]; omega))))
       clear hb))
  go_ret
  exact ⟨rfl, Hb1.out⟩
end
end Go.Proofs.YtfanfkogogijpaaGreatDoor
namespace Go.Proofs.YtfanfkogogijpaaGreatDoor
section
open Go.RowKit Go.Maps Go.Shelf
open Go.Lib hiding intOf size_eq
abbrev ChgsAt (w : World) (v : Value) (L : List Chg) : Prop := ItemsAt chgC 7 w v L
@[go_sem] theorem run_store_func {P : Program} {w : World} {a : Addr} {m : Mode} (f : Fn) (x c : Array Value) : (store a (.func f x c) m).run P w = stored P w a (.func f x c) m := run_store P w a _ m rfl
theorem boxed_new {w : World} {t : TypeId} {v : Value} {B : Nat} (h : B = w.heap.size) : Boxed (w.alloc (.cells #[v] t)) B t v := by subst h; exact Boxed.new w t v
/-- the changes are a list of changes -/
theorem chgs_of_env {w : World} {base : Nat} {K : Blks} {s : DSt} (h : EnvS w base K s) : ∃ v, (s.2.2 = [] → v = .slice none 0 0) ∧ Boxed w K.o 28 v ∧ w.ownsRow base 49 7 v s.2.2.length (s.2.2.flatMap chgC) := EnvAt.o h
set_option maxRecDepth 100000 in
set_option maxHeartbeats 2000000 in
theorem changesN_any (va vb : Value) (A B : List Ent) (w : World) (ha : EntsAt w va A) (hb : EntsAt w vb B) (sa : ∀ x ∈ A, x.p.size < 4611686018427387904) (sb : ∀ x ∈ B, x.p.size < 4611686018427387904) (hl : A.length + B.length < 1099511627776) :
    Calls Tryz.prog 10 #[va, vb] w fun r w' => ∃ v, r = .returned v ∧ w'.ownsRow w.heap.size 49 7 v (chgL A B).length ((chgL A B).flatMap chgC) ∧ (chgL A B = [] → v = .slice none 0 0) ∧ Below w.heap.size w w' := by
  obtain ⟨w3, hw3⟩ : ∃ x, x = ((w.alloc (.cells #[.slice none 0 0] 28)).alloc (.cells #[.string ⟨#[]⟩] 9)).alloc (.cells #[.bool false] 4) := ⟨_, rfl⟩
  have h3 : w3.heap.size = w.heap.size + 1 + 1 + 1 := by rw [hw3]; simp
  obtain ⟨K, hK⟩ : ∃ K : Blks, K = ⟨w.heap.size + 1 + 1, w.heap.size + 1, w.heap.size, w3.heap.size, w3.heap.size + 1⟩ := ⟨_, rfl⟩
  have o3 : Boxed w3 w.heap.size 28 (.slice none 0 0) := by rw [hw3]; exact ((boxed_new rfl).alloc _).alloc _
  have t3 : Boxed w3 (w.heap.size + 1) 9 (.string ⟨#[]⟩) := by rw [hw3]; exact (boxed_new (by simp)).alloc _
  have b3 : Boxed w3 (w.heap.size + 1 + 1) 4 (.bool false) := by rw [hw3]; exact boxed_new (by simp)
  obtain ⟨w4, hw4⟩ : ∃ x, x = w3.alloc (.cells #[goneF K] 75) := ⟨_, rfl⟩
  have h4 : w4.heap.size = w3.heap.size + 1 := by rw [hw4]; simp
  have o4 : Boxed w4 w.heap.size 28 (.slice none 0 0) := by rw [hw4]; exact o3.alloc _
  have t4 : Boxed w4 (w.heap.size + 1) 9 (.string ⟨#[]⟩) := by rw [hw4]; exact t3.alloc _
  have b4 : Boxed w4 (w.heap.size + 1 + 1) 4 (.bool false) := by rw [hw4]; exact b3.alloc _
  have g4 : Boxed w4 w3.heap.size 75 (goneF K) := by rw [hw4]; exact boxed_new rfl
  obtain ⟨w5, hw5⟩ : ∃ x, x = w4.alloc (.cells #[layF K] 75) := ⟨_, rfl⟩
  have o5 : Boxed w5 w.heap.size 28 (.slice none 0 0) := by rw [hw5]; exact o4.alloc _
  have t5 : Boxed w5 (w.heap.size + 1) 9 (.string ⟨#[]⟩) := by rw [hw5]; exact t4.alloc _
  have b5 : Boxed w5 (w.heap.size + 1 + 1) 4 (.bool false) := by rw [hw5]; exact b4.alloc _
  have g5 : Boxed w5 w3.heap.size 75 (goneF K) := by rw [hw5]; exact g4.alloc _
  have l5 : Boxed w5 w4.heap.size 75 (layF K) := by rw [hw5]; exact boxed_new rfl
  have e3 : Below w.heap.size w w3 := by rw [hw3]; exact (((Below.refl _ w).alloc (Nat.le_refl _) _).alloc (by simp) _).alloc (by simp; omega) _
  have e4 : Below w.heap.size w w4 := by rw [hw4]; exact e3.alloc (by omega) _
  have hbel : Below w.heap.size w w5 := by rw [hw5]; exact e4.alloc (by omega) _
  have hI : MergeI w w5 K (chgL A B) (A.length + B.length) va vb A B (false, ⟨#[]⟩, []) := by
    refine ⟨ha, hb, hbel, ?_, ⟨A.length + B.length, Nat.le_refl _, rfl⟩, sa, sb, by simp⟩
    subst hK
    refine ⟨b5, t5, ⟨_, fun _ => rfl, o5, World.ownsRow_nil _ _ _ _⟩, g5, by rw [h4] at l5; exact l5, ⟨⟨?_, ?_, ?_, ?_, ?_⟩, ?_, ?_, ?_, ?_, ?_, ?_, ?_, ?_, ?_⟩, by decide⟩ <;> simp <;> omega
  have hM := merge_any hI hl
  have gc4 := g4.cell
  have gc5 := g5.cell
  have lc5 := l5.cell
  have e1 : K.o = w.heap.size := by rw [hK]
  have eg : goneF K = .func (.func 25) #[] #[.pointer (some ⟨w.heap.size + 1 + 1, 0, none⟩), .pointer (some ⟨w.heap.size + 1, 0, none⟩), .pointer (some ⟨w.heap.size, 0, none⟩)] := by rw [hK]; rfl
  have el : layF K = .func (.func 26) #[] #[.pointer (some ⟨w.heap.size, 0, none⟩)] := by rw [hK]; rfl
  have eK : K.g = w3.heap.size ∧ K.l = w4.heap.size := by rw [hK, h4]; exact ⟨rfl, rfl⟩
  rw [eg] at hw4 gc4 gc5
  rw [el] at hw5 lc5
  rw [eg, el, eK.1, eK.2] at hM
  have HM := Lib.hid hM
  have Hw3 := Lib.hid hw3
  have Hw4 := Lib.hid hw4
  have Hw5 := Lib.hid hw5
  have HE1 := Lib.hid e1
  clear hM hI hw3 hw4 hw5 hK e1 eg el eK h3 h4 o3 t3 b3 o4 t4 b4 g4 o5 t5 b5 g5 l5 e3 e4 hbel ha hb sa sb
  go_enter Tryz.func10, Tryz.ntmps10
  go_upto_region 3 with fail
  rw [← Hw3.out]
  go_upto_region 4 with fail
  rw [← Hw4.out]
  go_upto_region 5 with fail
  rw [← Hw5.out]
  go_wp2_with (first
    | (go_at_call 27; refine HM.out.mono ?_; rintro e w6 ⟨rfl, hb6, s6, he6, hs6⟩
       obtain ⟨v, hz, hv, hr⟩ := chgs_of_env he6
       rw [HE1.out] at hv
       rw [hs6] at hr hz
       have HZ := Lib.hid hz
       have cv := hv.cell
       have HR := Lib.hid hr
       have HB6 := Lib.hid hb6
       clear hv hr hb6 he6 hs6 hz))
  go_ret
  exact ⟨_, rfl, HR.out, HZ.out, HB6.out⟩
theorem changes_any (va vb : Value) (A B : List Ent) (w : World) (ha : EntsAt w va A) (hb : EntsAt w vb B) (sa : ∀ x ∈ A, x.p.size < 4611686018427387904) (sb : ∀ x ∈ B, x.p.size < 4611686018427387904) (hl : A.length + B.length < 1099511627776) :
    Calls Tryz.prog 10 #[va, vb] w fun r w' => ∃ v, r = .returned v ∧ w'.ownsRow w.heap.size 49 7 v (chgL A B).length ((chgL A B).flatMap chgC) ∧ Below w.heap.size w w' :=
  (changesN_any va vb A B w ha hb sa sb hl).mono fun r w' ⟨v, h1, h2, _, h3⟩ => ⟨v, h1, h2, h3⟩
theorem Small.p {L : List Ent} (h : Small L) : ∀ x ∈ L, x.p.size < 4611686018427387904 := fun x hx => by have := (h x hx).1; omega
/-- what Diff answers -/
structure DiffR (w w' : World) (A B : List Ent) (v e : Value) : Prop where
  a : (checkL A).1 ≠ 0 → v = .slice none 0 0 ∧ e = fltV ((checkL A).1 : Int) 0 ((checkL A).2 : Int)
  b : (checkL A).1 = 0 → (checkL B).1 ≠ 0 → v = .slice none 0 0 ∧ e = fltV ((checkL B).1 : Int) 1 ((checkL B).2 : Int)
  c : (checkL A).1 = 0 → (checkL B).1 = 0 → e = .nilIface ∧ w'.ownsRow w.heap.size 49 7 v (chgL A B).length ((chgL A B).flatMap chgC) ∧ (chgL A B = [] → v = .slice none 0 0)
theorem ownsRow_base {w : World} {b b' size n : Nat} {T : TypeId} {v : Value} {xs : List Value} (h : w.ownsRow b T size v n xs) (hb : b' ≤ b) : w.ownsRow b' T size v n xs := by
  refine ⟨h.1, ?_⟩
  rcases h.2 with h2 | ⟨g, cap, cur, rfl, a, r⟩
  · exact .inl h2
  · exact .inr ⟨g, cap, cur, rfl, Nat.le_trans hb a, r⟩
set_option maxRecDepth 100000 in
set_option maxHeartbeats 2000000 in
theorem diff_any (va vb : Value) (A B : List Ent) (w : World) (ha : EntsAt w va A) (hb : EntsAt w vb B) (sa : Small A) (sb : Small B) (hl : A.length + B.length < 1099511627776) (hg : Handle w) :
    Calls Tryz.prog 5 #[va, vb] w fun r w' => Below w.heap.size w w' ∧ ∃ v e, r = .returned (.tuple #[v, e]) ∧ DiffR w w' A B v e := by
  have h1 := tcheck_any va A w ha sa
  have h2 : ∀ W, Below w.heap.size w W → _ := fun W hW => tcheck_any vb B W (hb.below hW (Nat.le_refl _)) sb
  have h3 : ∀ W, Below w.heap.size w W → _ := fun W hW => changesN_any va vb A B W (ha.below hW (Nat.le_refl _)) (hb.below hW (Nat.le_refl _)) sa.p sb.p hl
  have h4 : ∀ W, Below w.heap.size w W → _ := fun W hW => fault_flt ((checkL B).1 : Int) 0 ((checkL B).2 : Int) 1 0 W (hg.below hW (Nat.le_refl _))
  have H1 := Lib.hid h1
  have H2 := Lib.hid h2
  have H3 := Lib.hid h3
  have H4 := Lib.hid h4
  clear h1 h2 h3 h4 ha hb sa sb hl hg
  by_cases ca : (checkL A).1 = 0
  · have eA : errT A = .nilIface := if_pos ca
    rw [eA] at H1
    by_cases cb : (checkL B).1 = 0
    · have eB : errT B = .nilIface := if_pos cb
      rw [eB] at H2
      have Ca := Lib.hid ca
      have Cb := Lib.hid cb
      clear ca cb
      go_enter Tryz.func5, Tryz.ntmps5
      go_wp2_with (first
        | (go_at_call 4; refine H1.out.mono ?_; rintro r w1 ⟨rfl, hb1⟩; have HB1 := Lib.hid hb1; clear hb1 H1)
        | (go_at_call 4; refine (H2.out _ HB1.out).mono ?_; rintro r w2 ⟨rfl, hb2⟩; have HB2 := Lib.hid (HB1.out.trans (hb2.mono HB1.out.size)); clear hb2 H2)
        | (go_at_call 10; refine (H3.out _ HB2.out).mono ?_; rintro r w3 ⟨v, rfl, hr, hz, hb3⟩; have HZ := Lib.hid hz; clear hz; have HR := Lib.hid (ownsRow_base hr HB2.out.size); have HB3 := Lib.hid (HB2.out.trans (hb3.mono HB2.out.size)); clear hr hb3 H3))
      go_ret2
      exact ⟨HB3.out, _, _, rfl, fun h => absurd Ca.out h, fun _ h => absurd Cb.out h, fun _ _ => ⟨rfl, HR.out, HZ.out⟩⟩
    · have eB : errT B = fltV ((checkL B).1 : Int) 0 ((checkL B).2 : Int) := if_neg cb
      rw [eB] at H2
      unfold fltV at H2 H4
      have Ca := Lib.hid ca
      have Cb := Lib.hid cb
      clear ca cb
      go_enter Tryz.func5, Tryz.ntmps5
      go_wp2_with (first
        | (go_at_call 4; refine H1.out.mono ?_; rintro r w1 ⟨rfl, hb1⟩; have HB1 := Lib.hid hb1; clear hb1 H1)
        | (go_at_call 4; refine (H2.out _ HB1.out).mono ?_; rintro r w2 ⟨rfl, hb2⟩; have HB2 := Lib.hid (HB1.out.trans (hb2.mono HB1.out.size)); clear hb2 H2)
        | (go_at_call 9; refine (H4.out _ HB2.out).mono ?_; rintro r w3 ⟨rfl, hb3⟩; have HB3 := Lib.hid (HB2.out.trans (hb3.mono HB2.out.size)); clear hb3 H4))
      go_ret2
      exact ⟨HB3.out, _, _, rfl, fun h => absurd Ca.out h, fun _ _ => ⟨rfl, rfl⟩, fun _ h => absurd h Cb.out⟩
  · have eA : errT A = fltV ((checkL A).1 : Int) 0 ((checkL A).2 : Int) := if_neg ca
    rw [eA] at H1
    unfold fltV at H1
    have Ca := Lib.hid ca
    clear ca
    go_enter Tryz.func5, Tryz.ntmps5
    go_wp2_with (first
      | (go_at_call 4; refine H1.out.mono ?_; rintro r w1 ⟨rfl, hb1⟩; have HB1 := Lib.hid hb1; clear hb1 H1))
    go_ret2
    exact ⟨HB1.out, _, _, rfl, fun _ => ⟨rfl, rfl⟩, fun h => absurd h Ca.out, fun h => absurd h Ca.out⟩
end
end Go.Proofs.YtfanfkogogijpaaGreatDoor
