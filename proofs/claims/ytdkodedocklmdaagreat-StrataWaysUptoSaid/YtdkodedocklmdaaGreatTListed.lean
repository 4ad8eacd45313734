/- Going through a tree; List (TKeys, TBelow, TColl, TSeq, TList). -/
import Derived.Test.YtdkodedocklmdaaGreatTStand
import Derived.Test.YtdkodedocklmdaaGreatTOrd2
import Derived.Test.YtdkodedocklmdaaGreatCompare
import Derived.Test.YtdkodedocklmdaaGreatRef
import Derived.Test.YtdkodedocklmdaaGreatShelf
import Derived.Test.YtdkodedocklmdaaGreatIterShelf
import Derived.Test.YtdkodedocklmdaaGreatTReach
import Derived.Test.YtdkodedocklmdaaGreatRGoes
import Derived.Test.YtdkodedocklmdaaGreatTOf
import Derived.Test.YtdkodedocklmdaaGreatIter
import Derived.Sort.OwnSorted
import Derived.Maps.Ext
set_option linter.unusedSimpArgs false
set_option linter.unusedVariables false
namespace Go.Proofs.YtdkodedocklmdaaGreat
section
open Go.RowKit Go.Maps Go.Sort Go.Shelf
open Go.Lib hiding intOf size_eq
/- plain: the keys of such a map are the names -/
theorem before_ne {a b : Lit} (h : a.before b = true) : a ≠ b := fun e => by subst e; exact absurd h (by rw [WideShapes.before_irrefl]; simp)
theorem names_perm {D : DataW Nat} (hc : Canon D) {nd : List Nd} (hw : Wf nd) (ho : InOrder nd) {q : List UInt8} (hD : KidsD D nd q) : (names nd q).Perm (strKeys D) := by
  obtain ⟨es, rfl, hp, hk⟩ := hc
  refine perm_strKeys (hp.imp fun {a b} h => before_ne h) (fun p hpm => ?_) ?_ (fun c => ?_)
  · obtain ⟨c, hc, _⟩ := hD.has p.1 (by rw [has_eq, List.any_eq_true]; exact ⟨p, hpm, WideAt.sameKey_self (hk p hpm)⟩)
    exact ⟨c, hc⟩
  · exact (names_order hw ho q).imp fun {a b} h e => by subst e; exact absurd h (Std.lt_irrefl)
  · rw [mem_names]
    constructor
    · intro h
      cases hh : has (DataW.map es) (.string c) with
      | true => rfl
      | false =>
        have h1 := hD.at_ c
        rw [atKey_of_not_has hh] at h1
        cases hk2 : kidN nd q c with
        | none => exact absurd hk2 h
        | some y => rw [hk2] at h1; cases h1
    · intro h
      obtain ⟨c', h1, h2⟩ := hD.has _ h
      injection h1 with h1
      rw [h1]
      exact h2
def ltC : List UInt8 → List UInt8 → Bool := ltOf cmpB
theorem ltC_iff {a b : List UInt8} : ltC a b = true ↔ a < b := by
  unfold ltC ltOf
  rw [decide_eq_true_eq]
  exact cmpB_neg
theorem swo_cmp : SWO (ltOf cmpB) := by
  refine ⟨fun x => ?_, fun x y z h k => ?_, fun x y z h k => ?_⟩
  · have h : ¬ ltC x x = true := fun h => absurd (ltC_iff.1 h) (Std.lt_irrefl)
    simpa [ltC] using h
  · exact ltC_iff.2 (Std.lt_trans (ltC_iff.1 h) (ltC_iff.1 k))
  · have h1 : ¬ x < y := fun e => by have := ltC_iff.2 e; rw [show ltC x y = ltOf cmpB x y from rfl, h] at this; cases this
    have k1 : ¬ y < z := fun e => by have := ltC_iff.2 e; rw [show ltC y z = ltOf cmpB y z from rfl, k] at this; cases this
    have g : ¬ ltC x z = true := fun e => by
      have e1 := ltC_iff.1 e
      rcases cmpB_cases x y with ⟨_, a⟩ | ⟨_, a⟩ | ⟨_, a⟩
      · exact h1 a
      · subst a; exact k1 e1
      · exact k1 (Std.lt_trans a e1)
    simpa [ltC] using g
theorem tot_cmp (x y : List UInt8) (h : ltOf cmpB x y = false) (k : ltOf cmpB y x = false) : x = y := by
  rcases cmpB_cases x y with ⟨_, a⟩ | ⟨_, a⟩ | ⟨_, a⟩
  · have := ltC_iff.2 a; rw [show ltC x y = ltOf cmpB x y from rfl, h] at this; cases this
  · exact a
  · have := ltC_iff.2 a; rw [show ltC y x = ltOf cmpB y x from rfl, k] at this; cases this
/-- sorted, the keys are the names in order -/
theorem sorted_names {nd : List Nd} (hw : Wf nd) (ho : InOrder nd) {q : List UInt8} {ss : List (List UInt8)} (h : (names nd q).Perm ss) : ss.mergeSort (fun x y => !(ltOf cmpB) y x) = names nd q := by
  have tr : ∀ a b c : List UInt8, (!(ltOf cmpB) b a) = true → (!(ltOf cmpB) c b) = true → (!(ltOf cmpB) c a) = true := fun a b c h k => by
    have h1 : ltOf cmpB b a = false := by simpa using h
    have k1 : ltOf cmpB c b = false := by simpa using k
    simpa using swo_cmp.ntrans c b a k1 h1
  have tto : ∀ a b : List UInt8, (!(ltOf cmpB) b a || !(ltOf cmpB) a b) = true := fun a b => by
    cases h1 : ltOf cmpB b a with
    | false => rfl
    | true =>
      cases h2 : ltOf cmpB a b with
      | false => rfl
      | true =>
        have := swo_cmp.trans a b a h2 h1
        rw [swo_cmp.irrefl] at this
        cases this
  have hno := names_order hw ho q
  refine List.Perm.eq_of_pairwise (le := fun a b => (!(ltOf cmpB) b a) = true) (fun a b _ _ h1 h2 => tot_cmp a b (by simpa using h2) (by simpa using h1)) (List.pairwise_mergeSort tr tto ss) (hno.imp fun {a b} hab => ?_) ((List.mergeSort_perm ss _).trans h.symm)
  have : ¬ ltC b a = true := fun e => absurd (Std.lt_trans hab (ltC_iff.1 e)) (Std.lt_irrefl)
  simpa [ltC] using this
/- the walk -/
theorem Tryz.sortedEnters : ∀ args w, (callFunc 51 args).run Tryz.prog w = .ok (.enter 51 args) w := enters_of Tryz.func51 (by kernel_rfl) rfl
theorem Tryz.keysEnters : ∀ args w, (callFunc 73 args).run Tryz.prog w = .ok (.enter 73 args) w := enters_of Tryz.func73 (by kernel_rfl) rfl
theorem keys_any (b : Nat) (W : World) : Calls Tryz.prog 59 #[.map (some b)] W fun e w' => e = .returned (.func (.func 73) #[] #[.pointer (some ⟨W.heap.size, 0, none⟩)]) ∧ w' = W.alloc (.cells #[.map (some b)] 80) :=
  callsIn_wide.1 (AnyZ.keys_in Tryz.keysZ Fence.wide 5 trivial rfl (some b) W)
theorem cmp_reads (blk off size : Nat) (w : World) : CmpLays1 Tryz.prog 51 #[] encStr cmpB blk off size w := fun m os dk _ x y =>
  (cmp_any ⟨x.toArray⟩ ⟨y.toArray⟩ _).mono fun e w' ⟨h1, h2⟩ => ⟨h1, 0, #[], by rw [grow_empty]; exact h2.symm⟩
set_option maxRecDepth 100000 in
set_option maxHeartbeats 4000000 in
theorem sorted_any {Bm b n : Nat} {D : DataW Nat} (W : World) (hBm : Bm < W.heap.size) (hm : W.cell? ⟨Bm, 0, none⟩ = some (.map (some b))) (hown : W.ownsMap Tryz.prog 9 ptrElem b n D) (hsz : Maps.size D ≤ 1099511627776) :
    Calls Tryz.prog 58 #[.func (.func 73) #[] #[.pointer (some ⟨Bm, 0, none⟩)], .func (.func 51) #[] #[]] W fun e w' =>
      ∃ (v : Value) (ss : List (List UInt8)), e = .returned v ∧ ss.Perm (strKeys D) ∧ w'.ownsRow W.heap.size 9 1 v ss.length ((ss.mergeSort (fun x y => !(ltOf cmpB) y x)).map encStr) ∧ Below W.heap.size W w' := by
  have hseq : SeqGives Fence.wide 3 Tryz.prog 73 #[.pointer (some ⟨Bm, 0, none⟩)] encStr (fun ss => ss.Perm (strKeys D)) (Maps.size D) W :=
    AnyZ.keys_gives (ρ := Tryz.keysZ_ren) { Tryz.keysZ with } Fence.wide 3 trivial rfl (by omega) Bm b n D W hBm hm hown
  have hcol : Calls Tryz.prog 71 #[.func (.func 73) #[] #[.pointer (some ⟨Bm, 0, none⟩)]] W fun e w' => ∃ (v : Value) (ss : List (List UInt8)), e = .returned v ∧ ss.Perm (strKeys D) ∧ w'.ownsRow W.heap.size 9 1 v ss.length (ss.map encStr) ∧ (v = .slice none 0 0 ↔ ss = []) ∧ Below W.heap.size W w' :=
    callsIn_wide.1 (AnyZ.collect_in Tryz.collectZ Fence.wide 5 trivial trivial rfl (by omega) 73 #[.pointer (some ⟨Bm, 0, none⟩)] trivial Tryz.keysEnters (fun ss => ss.Perm (strKeys D)) (Maps.size D) (by unfold maxLen; omega) (by omega) W hseq)
  have hlen : (strKeys D).length = Maps.size D := by
    obtain ⟨es, rfl⟩ := hown.isMap
    show (es.map _).length = es.length
    simp
  have Hcol := Lib.hid hcol
  have Hlen := Lib.hid hlen
  clear hseq hcol hlen hm hown
  go_enter Tryz.func58, Tryz.ntmps58
  go_upto_region 2 with (go_at_call 71; refine Hcol.out.mono ?_; rintro e w1 ⟨v, ss, rfl, hp, hrow, hnil, hb⟩)
  have hss : ss.length ≤ 1099511627776 := by rw [hp.length_eq, Hlen.out]; exact hsz
  rcases hrow.2 with ⟨rfl, h0⟩ | ⟨g, cap, cur, rfl, hbase, hg, h1, h2, h3, h4⟩
  · obtain rfl : ss = [] := List.eq_nil_of_length_eq_zero h0
    have Hs := Lib.hid (Tryz.slices_SortFunc_none (α := List UInt8) none 0 (.func (.func 51) #[] #[]) w1)
    have Hp := Lib.hid hp
    have Hb := Lib.hid hb
    clear hp hrow hnil hb hss
    go_wp2_with (go_at_call 72; refine Hs.out.mono ?_; rintro e w2 ⟨rfl, rfl⟩)
    go_ret
    exact ⟨_, [], rfl, Hp.out, (by rw [List.mergeSort_nil]; exact World.ownsRow_nil _ _ _ _), Hb.out⟩
  · have hs := Tryz.slices_SortFunc_total encStr (fun _ => rfl) cmpB swo_cmp 51 #[] g 0 cap ss.toArray w1 Tryz.sortedEnters (cmp_reads _ _ _ _) (holds_of_block hg (by simpa using h4)) (Array.getElem?_eq_some_iff.1 hg).1 (by simp; omega) tot_cmp
    rw [show ss.toArray.size = ss.length from rfl] at hs
    have hsrow := fun (k : Nat) (os : Array Obj) => ownsRow_sorted (n := k) (os := os) (ts := ss.mergeSort (fun x y => !(ltOf cmpB) y x)) (by simp) hbase hg h1 h2 h3
    have hgb := fun (k : Nat) (os : Array Obj) => hb.grown (grownBy_sorted (w := w1) (g := g) (n := k) (os := os) (ss.mergeSort (fun x y => !(ltOf cmpB) y x)).toArray) hb.size (fun j e => by injection e with e; omega)
    obtain ⟨m, hm⟩ : ∃ m, m = ss.length := ⟨_, rfl⟩
    rw [← hm] at hs hsrow ⊢
    have Hs := Lib.hid hs
    have Hrow := Lib.hid hsrow
    have Hgb := Lib.hid hgb
    have Hp := Lib.hid hp
    have Hm := Lib.hid hm
    clear hs hsrow hgb hp hrow hnil hb hss hg h3 h4 hm
    go_wp2_with (go_at_call 72; refine Hs.out.mono ?_; rintro e w2 ⟨rfl, k, os, hw2⟩)
    go_ret
    refine ⟨_, ss, rfl, Hp.out, ?_, ?_⟩
    · rw [← Hm.out]
      exact Hrow.out k os
    · exact Hgb.out k os
end
section
open Go.RowKit Go.Maps
open Go.Lib hiding intOf size_eq
/-- the nodes of a tree stand -/
structure NodesAt (w : World) (rt rm : Nat) (nd : List Nd) : Prop where
  root : w.heap[rt]? = some (nodeObj rootE rm)
  rmap : KidsAt w rm nd []
  node : ∀ y ∈ nd, w.heap[y.b]? = some (nodeObj y.e y.m)
  nmap : ∀ y ∈ nd, KidsAt w y.m nd y.e.path
theorem TreeAt.nodes {w : World} {T rt rm base : Nat} {nd : List Nd} (h : TreeAt w T rt rm base nd) : NodesAt w rt rm nd := ⟨h.root, h.rmap, h.node, h.nmap⟩
theorem NodesAt.spot {w : World} {rt rm : Nat} {nd : List Nd} (h : NodesAt w rt rm nd) {o : Option Nd} (ho : SpotIn nd o) :
    w.heap[spotB rt o]? = some (nodeObj (spotE o) (spotM rm o)) ∧ KidsAt w (spotM rm o) nd (spotQ o) := by
  cases o with
  | none => exact ⟨h.root, h.rmap⟩
  | some y => exact ⟨h.node y ho, h.nmap y ho⟩
/-- a list of nodes that can be gone through -/
structure Fine (nd : List Nd) : Prop where
  wf : Wf nd
  ord : InOrder nd
  len : nd.length ≤ 4096
  short : ∀ y ∈ nd, y.e.path.length ≤ 255
theorem Good.fine {nd : List Nd} (h : Good (ents nd)) : Fine nd := by
  refine ⟨h.wf, ?_, ?_, fun y hy => checkNo_small (itselfNo_check (h.it y.e (List.mem_map.2 ⟨y, hy, rfl⟩)))⟩
  · have := h.inc
    unfold ents at this
    rwa [List.pairwise_map] at this
  · have := h.len
    rwa [ents_length] at this
/-- a function that takes entries: what it has taken, in which blocks -/
structure Yields (g : Nat) (cb : Array Value) (rt rm : Nat) (nd : List Nd) (Y : List Ent → List Nat → World → Prop) : Prop where
  call : ∀ acc F y W, y ∈ nd → acc.length < 1099511627776 → Y acc F W → Calls Tryz.prog g (#[.agg #[.string y.e.p, .int .i64 y.e.k, .int .i64 y.e.m, .string y.e.d, .string y.e.l]] ++ cb) W fun r W' => r = .returned (.bool true) ∧ ∃ F', Y (acc ++ [y.e]) F' W' ∧ But F W W' ∧ ∀ k ∈ F', k ∈ F ∨ W.heap.size ≤ k
  nodes : ∀ acc F W, Y acc F W → NodesAt W rt rm nd
  below : ∀ acc F W W', Y acc F W → Below W.heap.size W W' → Y acc F W'
  lt : ∀ acc F W, Y acc F W → ∀ k ∈ F, k < W.heap.size
def Taken (Y : List Ent → List Nat → World → Prop) (acc : List Ent) (F : List Nat) (W : World) (add : List Ent) (r : Ending) (W' : World) : Prop :=
  r = .returned (.bool true) ∧ ∃ F', Y (acc ++ add) F' W' ∧ But F W W' ∧ ∀ k ∈ F', k ∈ F ∨ W.heap.size ≤ k
def adds (nd : List Nd) (m : Nat) (K : List Nd) : List Ent := K.flatMap fun y => y.e :: (dfs nd (m - 1) y.e.path).map (·.e)
theorem adds_all {nd : List Nd} (hw : Wf nd) {m : Nat} {q : List UInt8} (hd : ∀ y ∈ nd, (pcs y.e.path).length ≤ m + (PP q).length) : (dfs nd m q).map (·.e) = adds nd m (kidsN nd q) := by
  cases m with
  | zero =>
    have hk : kidsN nd q = [] := by
      refine List.eq_nil_iff_forall_not_mem.2 fun y hy => ?_
      obtain ⟨h1, h2⟩ := mem_kids.1 hy
      have h3 := hd y h1
      rw [PP_parent (hw.ok y h1), h2] at h3
      simp at h3
      omega
    rw [hk]
    rfl
  | succ m =>
    rw [show dfs nd (m + 1) q = (kidsN nd q).flatMap (fun y => y :: dfs nd m y.e.path) from rfl, List.map_flatMap]
    rfl
theorem adds_snoc (nd : List Nd) (m : Nat) (K : List Nd) (y : Nd) : adds nd m (K ++ [y]) = adds nd m K ++ (y.e :: (dfs nd (m - 1) y.e.path).map (·.e)) := by
  unfold adds
  rw [List.flatMap_append, List.flatMap_singleton]
set_option maxRecDepth 100000 in
set_option maxHeartbeats 4000000 in
theorem walk_of {g : Nat} {cb : Array Value} {rt rm : Nat} {nd : List Nd} {Y : List Ent → List Nat → World → Prop} (hY : Yields g cb rt rm nd Y) (eg : ∀ args w, (callFunc g args).run Tryz.prog w = .ok (.enter g args) w) {m : Nat} (y : Nd) (hy : y ∈ nd)
    (hb : ∀ acc F W, acc.length + (dfs nd m y.e.path).length ≤ 1099511627776 → Y acc F W → Calls Tryz.prog 41 #[.pointer (some ⟨y.b, 0, none⟩), .func (.func g) #[] cb] W fun r W' => Taken Y acc F W ((dfs nd m y.e.path).map (·.e)) r W')
    (acc : List Ent) (F : List Nat) (W : World) (hN : acc.length + 1 + (dfs nd m y.e.path).length ≤ 1099511627776) (h : Y acc F W) :
    Calls Tryz.prog 60 #[.pointer (some ⟨y.b, 0, none⟩), .func (.func g) #[] cb] W fun r W' => Taken Y acc F W (y.e :: (dfs nd m y.e.path).map (·.e)) r W' := by
  have hcell := (hY.nodes acc F W h).node y hy
  obtain ⟨c0, c1, c2, c3, c4, _⟩ := node_cells hcell
  have hc : ∀ j v, ([.string y.e.p, .int .i64 y.e.k, .int .i64 y.e.m, .string y.e.d, .string y.e.l] : List Value)[j]? = some v → W.cell? ((⟨y.b, 0, none⟩ : Addr).add j) = some v := by
    intro j v hv
    have e1 : (⟨y.b, 0, none⟩ : Addr).add j = ⟨y.b, j, none⟩ := by unfold Addr.add; split <;> simp_all
    rw [e1]
    match j, hv with
    | 0, hv => simp at hv; subst hv; exact c0
    | 1, hv => simp at hv; subst hv; exact c1
    | 2, hv => simp at hv; subst hv; exact c2
    | 3, hv => simp at hv; subst hv; exact c3
    | 4, hv => simp at hv; subst hv; exact c4
    | j + 5, hv => simp at hv
  have HC := Lib.hid hc
  have H1 := Lib.hid (hY.call acc F y W hy (by omega) h)
  have H2 := Lib.hid (fun F W => hb (acc ++ [y.e]) F W (by rw [List.length_append, List.length_singleton]; exact hN))
  clear hc c0 c1 c2 c3 c4 hcell hb
  go_enter Tryz.func60, Tryz.ntmps60
  go_wp2_with (first
    | (refine wpList_load_at rfl _ _ rfl ⟨y.b, 0, none⟩ rfl [.string y.e.p, .int .i64 y.e.k, .int .i64 y.e.m, .string y.e.d, .string y.e.l] _ HC.out Tryz.underlying39 rfl (by kernel_rfl) ?_)
    | (go_at_call 41; refine (H2.out F1 w1 HY1.out).mono ?_; rintro r w2 ⟨rfl, F2, hy2, hb2, hf2⟩
       have HY2 := Lib.hid hy2
       have HB2 := Lib.hid hb2
       have HF2 := Lib.hid hf2
       clear hy2 hb2 hf2)
    | (refine H1.out.mono ?_; rintro r w1 ⟨rfl, F1, hy1, hb1, hf1⟩
       have HY1 := Lib.hid hy1
       have HB1 := Lib.hid hb1
       have HF1 := Lib.hid hf1
       clear hy1 hb1 hf1))
  go_ret
  refine ⟨rfl, F2, by have := HY2.out; rw [List.append_assoc] at this; exact this, HB1.out.trans HB2.out HF1.out, fun k hk => ?_⟩
  rcases HF2.out k hk with h1 | h1
  · exact HF1.out k h1
  · exact .inr (Nat.le_trans HB1.out.size h1)
theorem adds_take (nd : List Nd) (m : Nat) (K : List Nd) (k : Nat) : (adds nd m (K.take k)).length ≤ (adds nd m K).length := by
  have h : adds nd m K = adds nd m (K.take k) ++ adds nd m (K.drop k) := by
    unfold adds
    rw [← List.flatMap_append, List.take_append_drop]
  rw [h, List.length_append]
  omega
theorem names_get {nd : List Nd} {q : List UInt8} {k : Nat} {y : Nd} (h : (kidsN nd q)[k]? = some y) : (names nd q)[k]? = some (lastName y.e.path) := by
  unfold names
  rw [List.getElem?_map, h]
  rfl
theorem names_len (nd : List Nd) (q : List UInt8) : (names nd q).length = (kidsN nd q).length := by unfold names; simp
theorem kids_len (nd : List Nd) (q : List UInt8) : (kidsN nd q).length ≤ nd.length := List.length_filter_le _ _
set_option maxRecDepth 100000 in
set_option maxHeartbeats 4000000 in
theorem below_of {g : Nat} {cb : Array Value} {rt rm : Nat} {nd : List Nd} {Y : List Ent → List Nat → World → Prop} (hY : Yields g cb rt rm nd Y) (hfi : Fine nd) {m : Nat}
    (ih : ∀ y, y ∈ nd → ∀ acc F W, (∀ z ∈ nd, (pcs z.e.path).length ≤ (m - 1) + (pcs y.e.path).length) → 1 ≤ m → acc.length + 1 + (dfs nd (m - 1) y.e.path).length ≤ 1099511627776 → Y acc F W → Calls Tryz.prog 60 #[.pointer (some ⟨y.b, 0, none⟩), .func (.func g) #[] cb] W fun r W' => Taken Y acc F W (y.e :: (dfs nd (m - 1) y.e.path).map (·.e)) r W')
    (o : Option Nd) (ho : SpotIn nd o) (hd : ∀ y ∈ nd, (pcs y.e.path).length ≤ m + (PP (spotQ o)).length) (acc : List Ent) (F : List Nat) (W : World) (hN : acc.length + (dfs nd m (spotQ o)).length ≤ 1099511627776) (h : Y acc F W) :
    Calls Tryz.prog 41 #[.pointer (some ⟨spotB rt o, 0, none⟩), .func (.func g) #[] cb] W fun r W' => Taken Y acc F W ((dfs nd m (spotQ o)).map (·.e)) r W' := by
  have hall := adds_all hfi.wf hd
  have hN2 : acc.length + (adds nd m (kidsN nd (spotQ o))).length ≤ 1099511627776 := by rw [← hall, List.length_map]; exact hN
  rw [hall]
  clear hN hall
  have hspot := (hY.nodes acc F W h).spot ho
  have c5 := (node_cells hspot.1).2.2.2.2.2
  obtain ⟨nn, D, hown, hnn, hD⟩ := hspot.2
  have hperm := names_perm (hown.canon Tryz.keyed_str) hfi.wf hfi.ord hD
  have hlenD : Maps.size D ≤ 1099511627776 := by
    have h1 : (strKeys D).length = Maps.size D := by
      obtain ⟨es, rfl⟩ := hown.isMap
      show (es.map _).length = es.length
      simp
    have h2 := hperm.length_eq
    have h3 := kids_len nd (spotQ o)
    have h4 := hfi.len
    rw [names_len] at h2
    omega
  have hMl := hown.lt
  have hsort := sorted_any (Bm := W.heap.size) (W.alloc (.cells #[.map (some (spotM rm o))] 80)) (by simp) (by unfold World.cell?; rw [World.alloc_heap_new]; rfl) (hown.alloc _) hlenD
  replace hsort := hsort.mono (R' := fun e w' => ∃ v, e = .returned v ∧ Texts w' W.heap.size v (names nd (spotQ o)) ∧ Below W.heap.size W w') (fun e w' ⟨v, ss, he, hp, hrow, hb⟩ => ⟨v, he, by
    have hl : ss.length = (names nd (spotQ o)).length := (hperm.trans hp.symm).length_eq.symm
    rw [sorted_names hfi.wf hfi.ord (hperm.trans hp.symm), hl] at hrow
    exact texts_mono (base := (W.alloc (.cells #[.map (some (spotM rm o))] 80)).heap.size) hrow (by simp), ((Below.refl W.heap.size W).alloc (Nat.le_refl _) _).trans (hb.mono (by simp))⟩)
  obtain ⟨n, hn⟩ : ∃ n, n = (kidsN nd (spotQ o)).length := ⟨_, rfl⟩
  have Hsort := Lib.hid hsort
  have Hn := Lib.hid hn
  have HY0 := Lib.hid h
  have HY := Lib.hid hY
  have Hih := Lib.hid ih
  have Hd := Lib.hid hd
  have Hfi := Lib.hid hfi
  clear hsort hperm hn h hY ih hd hfi hown hspot hD hlenD
  generalize hU : spotB rt o = U at *
  generalize hM : spotM rm o = M at *
  have HU := Lib.hid hU
  have HM := Lib.hid hM
  clear hU hM
  go_enter Tryz.func41, Tryz.ntmps41
  go_wp2_with (first
    | (go_at_call 59; refine (keys_any M W).mono ?_; rintro r w1 ⟨rfl, rfl⟩)
    | (go_at_call 58; refine Hsort.out.mono ?_; rintro r w2 ⟨v, rfl, htx, hb⟩; obtain ⟨so, cap, rfl, hla, hlo⟩ := left_of_texts htx; rw [names_len, ← Hn.out]
       have HL := Lib.hid hla
       have HO := Lib.hid (show OutOf F so from fun a ha hx => by have h1 := hlo a ha; have h2 := HY.out.lt _ _ _ HY0.out _ hx; omega)
       have HY2 := Lib.hid (HY.out.below _ _ _ _ HY0.out hb)
       have HB2 := Lib.hid ((But.refl F W).below hb)
       clear htx hb hla hlo))
  have hn4 : n ≤ 4096 := by rw [Hn.out]; exact Nat.le_trans (kids_len nd _) Hfi.out.len
  go_loopw [14, 6] (fun iv _ wr => ∃ (k : Nat) (F' : List Nat), iv = .int .i64 (k : Int) ∧ k ≤ n ∧ Y (acc ++ adds nd m ((kidsN nd (spotQ o)).take k)) F' wr ∧ But F W wr ∧ (∀ j ∈ F', j ∈ F ∨ W.heap.size ≤ j) ∧ LeftA wr so cap (names nd (spotQ o)) ∧ OutOf F' so) (fun iv _ _ => n - (intOf iv).toNat)
  case atStart => exact ⟨0, F, rfl, Nat.zero_le _, by rw [List.take_zero, show adds nd m [] = [] from rfl, List.append_nil]; exact HY2.out, HB2.out, fun j hj => .inl hj, HL.out, HO.out⟩
  case round =>
    obtain ⟨k, F1, rfl, hk, hy1, hb1, hf1, hl1, ho1⟩ := hrel
    clear HY2 HB2 HL HO
    by_cases hlt : k < n
    · obtain ⟨y, hyk⟩ : ∃ y, (kidsN nd (spotQ o))[k]? = some y := ⟨_, List.getElem?_eq_getElem (by rw [← Hn.out]; exact hlt)⟩
      obtain ⟨hyn, hyp⟩ := mem_kids.1 (List.mem_of_getElem? hyk)
      have hkid := kid_at Hfi.out.wf (List.mem_of_getElem? hyk)
      obtain ⟨a, rfl, hca⟩ := hl1.cell k _ (names_get hyk)
      rw [show encS (lastName y.e.path) = .string (bs (lastName y.e.path)) from rfl] at hca
      have hsp := (HY.out.nodes _ _ _ hy1).spot ho
      rw [HU.out, HM.out] at hsp
      have c5 := (node_cells hsp.1).2.2.2.2.2
      have hka := hsp.2
      have hlast : (lastName y.e.path).length ≤ 255 := by
        have h1 := Hfi.out.short y hyn
        have : (lastName y.e.path).length ≤ y.e.path.length := by unfold lastName; simp
        omega
      have hm1 : 1 ≤ m := by
        have h3 := Hd.out y hyn
        rw [PP_parent (Hfi.out.wf.ok y hyn), hyp] at h3
        simp at h3
        omega
      have hstep : acc ++ adds nd m ((kidsN nd (spotQ o)).take k) ++ (y.e :: (dfs nd (m - 1) y.e.path).map (·.e)) = acc ++ adds nd m ((kidsN nd (spotQ o)).take (k + 1)) := by
        rw [List.take_add_one, hyk]
        show _ = acc ++ adds nd m (List.take k (kidsN nd (spotQ o)) ++ [y])
        rw [adds_snoc, List.append_assoc]
      have hNk : (acc ++ adds nd m ((kidsN nd (spotQ o)).take k)).length + 1 + (dfs nd (m - 1) y.e.path).length ≤ 1099511627776 := by
        have h1 := congrArg List.length hstep
        have h2 := adds_take nd m (kidsN nd (spotQ o)) (k + 1)
        simp only [List.length_append, List.length_cons, List.length_map] at h1 ⊢
        omega
      have hih := Hih.out y hyn _ F1 wr (fun z hz => by
        have h3 := Hd.out z hz
        rw [PP_parent (Hfi.out.wf.ok y hyn), hyp]
        simp
        omega) hm1 hNk hy1
      have Hih2 := Lib.hid hih
      have Hstep := Lib.hid hstep
      have Hka := Lib.hid hka
      have Hb1 := Lib.hid hb1
      have Hf1 := Lib.hid hf1
      have Hl1 := Lib.hid hl1
      have Ho1 := Lib.hid ho1
      have Hkid := Lib.hid hkid
      have hsz : (bs (lastName y.e.path)).size ≤ maxLen := by rw [bs_size]; unfold maxLen; omega
      have Hsz := Lib.hid hsz
      clear hih hstep hka hb1 hf1 hl1 ho1 hkid hsz hsp hy1 hyk hyp hNk
      go_wp2_with (first
        | (at_lookup; refine wpList_lookup_kid rfl _ _ rfl M nd (spotQ o) rfl Hka.out (bs (lastName y.e.path)) rfl Hsz.out ?_; rw [bs_toList, Hkid.out]; change wpList _ _ _ _ (Act.put _ _ (.pointer (some ⟨y.b, 0, none⟩))) _)
        | (go_at_call 60; refine Hih2.out.mono ?_; rintro r w3 ⟨rfl, F2, hy2, hb2, hf2⟩
           have HY3 := Lib.hid hy2
           have HB3 := Lib.hid hb2
           have HF3 := Lib.hid hf2
           clear hy2 hb2 hf2))
      go_roundw
      case rel =>
        refine ⟨k + 1, F2, by go_num, by omega, by rw [← Hstep.out]; exact HY3.out, Hb1.out.trans HB3.out Hf1.out, fun j hj => ?_, Hl1.out.but HB3.out Ho1.out, fun b hb hx => ?_⟩
        · rcases HF3.out j hj with h1 | h1
          · exact Hf1.out j h1
          · exact .inr (Nat.le_trans Hb1.out.size h1)
        · rcases HF3.out _ hx with h1 | h1
          · exact Ho1.out b hb h1
          · have := Hl1.out.lt b hb
            omega
      case measure => simp [intOf]; omega
    · obtain rfl : k = n := by omega
      rw [Hn.out, List.take_length] at hy1
      have HY3 := Lib.hid hy1
      have Hb1 := Lib.hid hb1
      have Hf1 := Lib.hid hf1
      clear hy1 hb1 hf1 hl1 ho1
      go_wp2
      go_ret
      exact ⟨rfl, F1, HY3.out, Hb1.out, Hf1.out⟩
/-- all that lies below a spot is handed on -/
theorem below_all {g : Nat} {cb : Array Value} {rt rm : Nat} {nd : List Nd} {Y : List Ent → List Nat → World → Prop} (hY : Yields g cb rt rm nd Y) (eg : ∀ args w, (callFunc g args).run Tryz.prog w = .ok (.enter g args) w) (hfi : Fine nd) : ∀ (m : Nat) (o : Option Nd), SpotIn nd o → (∀ y ∈ nd, (pcs y.e.path).length ≤ m + (PP (spotQ o)).length) → ∀ acc F W, acc.length + (dfs nd m (spotQ o)).length ≤ 1099511627776 → Y acc F W →
    Calls Tryz.prog 41 #[.pointer (some ⟨spotB rt o, 0, none⟩), .func (.func g) #[] cb] W fun r W' => Taken Y acc F W ((dfs nd m (spotQ o)).map (·.e)) r W'
  | 0, o, ho, hd, acc, F, W, hN, h => below_of hY hfi (m := 0) (fun y _ _ _ _ _ h1 => absurd h1 (by omega)) o ho hd acc F W hN h
  | m + 1, o, ho, hd, acc, F, W, hN, h => below_of hY hfi (m := m + 1) (fun y hy acc F W hd2 _ hN2 h2 => walk_of hY eg y hy (fun acc F W hN3 h3 => below_all hY eg hfi m (some y) hy (fun z hz => by
      have := hd2 z hz
      rw [show spotQ (some y) = y.e.path from rfl, PP_ne (hfi.wf.ok y hy).ne]
      exact this) acc F W hN3 h3) acc F W hN2 h2) o ho hd acc F W hN h
end
section
open Go.RowKit Go.Maps Go.Shelf
open Go.Lib hiding intOf size_eq
/-- a block of the nodes -/
def NBlk (rt rm : Nat) (nd : List Nd) (b : Nat) : Prop := b = rt ∨ b = rm ∨ ∃ y ∈ nd, b = y.b ∨ b = y.m
theorem NodesAt.lt {w : World} {rt rm : Nat} {nd : List Nd} (h : NodesAt w rt rm nd) {b : Nat} (hb : NBlk rt rm nd b) : b < w.heap.size := by
  rcases hb with rfl | rfl | ⟨y, hy, rfl | rfl⟩
  · exact heap_lt h.root
  · exact h.rmap.lt
  · exact heap_lt (h.node y hy)
  · exact (h.nmap y hy).lt
theorem NodesAt.same {w w' : World} {rt rm : Nat} {nd : List Nd} (h : NodesAt w rt rm nd) (hb : ∀ b, NBlk rt rm nd b → w'.heap[b]? = w.heap[b]?) : NodesAt w' rt rm nd :=
  ⟨(hb rt (.inl rfl)).trans h.root, h.rmap.block (fun es c x => (hb rm (.inr (.inl rfl))).trans x), fun y hy => (hb _ (.inr (.inr ⟨y, hy, .inl rfl⟩))).trans (h.node y hy),
    fun y hy => (h.nmap y hy).block (fun es c x => (hb _ (.inr (.inr ⟨y, hy, .inr rfl⟩))).trans x)⟩
theorem TreeAt.nblk {w : World} {T rt rm base : Nat} {nd : List Nd} (h : TreeAt w T rt rm base nd) {b : Nat} (hb : NBlk rt rm nd b) : IsBlk T rt rm nd b := by
  rcases hb with h1 | h1 | h1
  · exact .inr (.inl h1)
  · exact .inr (.inr (.inl h1))
  · exact .inr (.inr (.inr h1))
theorem row_below_any {w w' : World} {B base n size : Nat} {e : TypeId} {v : Value} {xs : List Value} (h : w.ownsRow base e size v n xs) (hb : Below B w w') (hB : w.heap.size ≤ B) : w'.ownsRow base e size v n xs := by
  obtain ⟨h1, h2⟩ := h
  refine ⟨h1, ?_⟩
  rcases h2 with h2 | ⟨g, cap, cur, a, b, c, d⟩
  · exact .inl h2
  · exact .inr ⟨g, cap, cur, a, b, (hb.block g (Nat.lt_of_lt_of_le (Array.getElem?_eq_some_iff.1 c).1 hB)).trans c, d⟩
/-- what has been collected -/
def ColY (rt rm : Nat) (nd : List Nd) (B base : Nat) (acc : List Ent) (F : List Nat) (W : World) : Prop :=
  NodesAt W rt rm nd ∧ (∀ b, NBlk rt rm nd b → b < base) ∧ base ≤ W.heap.size ∧ base ≤ B ∧ ∃ v, Boxed W B 22 v ∧ W.ownsRow base 39 5 v acc.length (acc.flatMap entC) ∧ F = B :: v.ownBlock.toList
theorem ColY.lo {rt rm : Nat} {nd : List Nd} {B base : Nat} {acc : List Ent} {F : List Nat} {W : World} (h : ColY rt rm nd B base acc F W) : ∀ k ∈ F, base ≤ k ∧ k < W.heap.size := by
  obtain ⟨_, _, _, hB, v, hv, hr, rfl⟩ := h
  intro k hk
  rcases List.mem_cons.1 hk with rfl | hk
  · exact ⟨hB, hv.lt⟩
  · rcases hr.2 with ⟨rfl, _⟩ | ⟨g, cap, cur, rfl, hb, hg, _⟩
    · simp [Value.ownBlock] at hk
    · simp [Value.ownBlock] at hk
      subst hk
      exact ⟨hb, (Array.getElem?_eq_some_iff.1 hg).1⟩
set_option maxRecDepth 100000 in
set_option maxHeartbeats 2000000 in
theorem collect1_any {B base : Nat} {v : Value} {acc : List Ent} (e : Ent) (w : World) (hv : Boxed w B 22 v) (hr : w.ownsRow base 39 5 v acc.length (acc.flatMap entC)) (hB : base ≤ B) (hbase : base ≤ w.heap.size) (hl : acc.length < 1099511627776) :
    Calls Tryz.prog 42 #[.agg #[.string e.p, .int .i64 e.k, .int .i64 e.m, .string e.d, .string e.l], .pointer (some ⟨B, 0, none⟩)] w fun r w' => r = .returned (.bool true) ∧ ∃ v', Boxed w' B 22 v' ∧ w'.ownsRow base 39 5 v' (acc ++ [e]).length ((acc ++ [e]).flatMap entC) ∧ But (B :: v.ownBlock.toList) w w' ∧ (∀ k ∈ v'.ownBlock.toList, k ∈ v.ownBlock.toList ∨ w.heap.size ≤ k) := by
  obtain ⟨i0, hi, hz0, hz1, hz2⟩ := info_parts Tryz.infoEntry
  obtain ⟨w0, hw0⟩ : ∃ x, x = w.alloc (.cells #[.string e.p, .int .i64 e.k, .int .i64 e.m, .string e.d, .string e.l] 39) := ⟨_, rfl⟩
  have hv0 : Boxed w0 B 22 v := by rw [hw0]; exact hv.alloc _
  have hr0 : w0.ownsRow base 39 5 v acc.length (acc.flatMap entC) := by rw [hw0]; exact hr.alloc _
  have hs0 : w0.heap.size = w.heap.size + 1 := by rw [hw0]; simp
  have hb0 : base ≤ w0.heap.size := by omega
  have hvc := hv0.cell
  have hvf := hv0.frozen
  have hbut : But (B :: v.ownBlock.toList) w w0 := by rw [hw0]; exact (But.refl _ w).alloc _
  have hcl : w0.heap[w.heap.size]? = some (.cells #[.string e.p, .int .i64 e.k, .int .i64 e.m, .string e.d, .string e.l] 39 (0, 0)) := by rw [hw0]; exact World.alloc_heap_new w _
  have hnew : ∀ j u, ([.string e.p, .int .i64 e.k, .int .i64 e.m, .string e.d, .string e.l] : List Value)[j]? = some u → (w0.alloc (.cells #[.string e.p, .int .i64 e.k, .int .i64 e.m, .string e.d, .string e.l] 39)).cell? ((⟨w0.heap.size, 0, none⟩ : Addr).add j) = some u := ent_cells (e := e) (World.alloc_heap_new w0 _)
  obtain ⟨n, hn⟩ : ∃ n, n = acc.length := ⟨_, rfl⟩
  rw [← hn] at hr0 hl
  have Hs0 := Lib.hid hs0
  clear hs0
  have Hi := Lib.hid hi
  have Hz0 := Lib.hid hz0
  have Hz1 := Lib.hid hz1
  have Hz2 := Lib.hid hz2
  have Hv := Lib.hid hv0
  have Hr := Lib.hid hr0
  have Hn := Lib.hid hn
  have Hw0 := Lib.hid hw0
  have Hbut := Lib.hid hbut
  have Hcl := Lib.hid hcl
  have Hnew := Lib.hid hnew
  clear hi hz0 hz1 hz2 hv0 hr0 hn hw0 hbut hcl hnew hv hr
  go_enter Tryz.func42, Tryz.ntmps42
  go_upto_region 1 with fail
  rw [← Hw0.out]
  go_wp2_with (first
    | (refine wpList_load_row rfl _ _ rfl w.heap.size rfl 39 #[.string e.p, .int .i64 e.k, .int .i64 e.m, .string e.d, .string e.l] (0, 0) _ Hcl.out Tryz.underlying39 rfl (by kernel_rfl) ?_)
    | (at_builtin; refine wpList_append_own_at _ rfl _ _ 22 rfl base 39 i0 _ 5 64 Tryz.underlying22 Hi.out Hz0.out Hz1.out Hz2.out rfl (by decide) _ _ _ rfl (Hr.out.alloc _) ⟨w0.heap.size, 0, none⟩ 1 1 [.string e.p, .int .i64 e.k, .int .i64 e.m, .string e.d, .string e.l] rfl rfl Hnew.out (by simp [Value.oneCell']) (by unfold maxLen; omega) (by omega) (by simp; omega) ?_; intro v' w1 hown' hgrow _ hblk; obtain ⟨g', cap', rfl⟩ := ownsRow_succ hown'; obtain ⟨hv1, hv2, hr2, hk2, hb3⟩ := Hv.out.appended (by decide) Hr.out hb0 hB hown' hgrow; have hc1 := hv1.cell; have hf1 := hv1.frozen
       have Hgrow := Lib.hid hgrow
       have Hblk := Lib.hid hblk
       have Hv2 := Lib.hid hv2
       have Hr2 := Lib.hid hr2
       clear hown' hgrow hblk hv1 hv2 hr2 hk2 hb3))
  go_ret
  refine ⟨rfl, _, Hv2.out, ?_, ?_, ?_⟩
  · rw [List.length_append, List.length_singleton, ← Hn.out, List.flatMap_append, List.flatMap_singleton]
    exact Hr2.out
  · refine (((Hbut.out).alloc _).grown Hgrow.out (fun k hk => ?_)).setCell (p := ⟨B, 0, none⟩) (.inl (List.mem_cons_self ..)) _
    refine .inl (List.mem_cons_of_mem _ ?_)
    have hk2 : v.ownBlock = some k := hk
    rw [hk2]; simp
  · intro k hk
    rcases own_list Hblk.out hk with h | h
    · exact .inl h
    · exact .inr (by have := Hs0.out; rw [h]; simp; omega)
theorem col_yields (rt rm : Nat) (nd : List Nd) (B base : Nat) : Yields 42 #[.pointer (some ⟨B, 0, none⟩)] rt rm nd (ColY rt rm nd B base) := by
  refine ⟨fun acc F y W hy hN h => ?_, fun acc F W h => h.1, fun acc F W W' h hb => ?_, fun acc F W h k hk => (h.lo k hk).2⟩
  · have hlo := h.lo
    obtain ⟨h1, h2, h3, h4, v, h5, h6, rfl⟩ := h
    refine (collect1_any y.e W h5 h6 h4 h3 hN).mono ?_
    rintro r W' ⟨rfl, v', a, b, c, d⟩
    have hm : ∀ k ∈ B :: v'.ownBlock.toList, k ∈ B :: v.ownBlock.toList ∨ W.heap.size ≤ k := fun k hk => by
      rcases List.mem_cons.1 hk with rfl | hk
      · exact .inl (List.mem_cons_self ..)
      · exact (d k hk).elim (fun x => .inl (List.mem_cons_of_mem _ x)) .inr
    refine ⟨rfl, _, ⟨h1.same (fun k hk => c.block k (h1.lt hk) (fun hF => ?_)), h2, Nat.le_trans h3 c.size, h4, v', a, b, rfl⟩, c, hm⟩
    have e1 := h2 k hk
    have e2 := (hlo k hF).1
    omega
  · obtain ⟨h1, h2, h3, h4, v, h5, h6, rfl⟩ := h
    exact ⟨h1.same (fun k hk => hb.block k (h1.lt hk)), h2, Nat.le_trans h3 hb.size, h4, v, boxed_below h5 hb, row_below_any h6 hb (Nat.le_refl _), rfl⟩
/-- a load of a struct in a fenced walk -/
theorem wpListIn_load_at {F : Fence} {n : Nat} {P : Program} {ops : Array Oper} {rest : List Oper} {o : Oper} {a : Act} {w : World} {Q : Exit → Act → World → Prop} (hgd : o.guard = none) (ty : TypeId) (x : Operand) (ho : o.op = .load ty x)
    (p : Addr) (hx : a.eval x = .pointer (some p)) (cs : List Value) (d : TypeDesc) (hc : ∀ j v, cs[j]? = some v → w.cell? (p.add j) = some v)
    (hu : P.underlying ty = some d) (hd : (match d with | .struct _ | .array _ _ => true | _ => false) = true) (hi : (P.info? ty).map (·.size) = some cs.length)
    (h : wpListIn F n P ops Q rest (a.put o.dst (.agg cs.toArray)) w) : wpListIn F n P ops Q (o :: rest) a w := by
  refine wpListIn_plain hgd fun K hK => ?_
  unfold Oper.wpIn
  refine ⟨?_, ?_⟩
  · simp [Oper.about, ho]
  · rw [Oper.semAt_plain F _ _ (by rw [ho]; intro c hc'; cases hc')]
    simp only [execOp, ho, hx, Instr.loadAt, Instr.sureAddr, Sem.run_bind, Sem.run_pure, Result.andThen_ok, run_loadVar_at w p ty cs d hc hu hd hi]
    exact hK _ _ h
end
section
open Go.RowKit Go.Maps Go.Shelf
open Go.Lib hiding intOf size_eq
attribute [local go_sem] Oper.semAt_some
/-- the block that a box's slice owns -/
def rowOf (B : Nat) (w : World) : Option Nat := match w.heap[B]? with
  | some (.cells cs _ _) => (match cs[0]? with
    | some v => v.ownBlock
    | none => none)
  | _ => none
def IsC (w : World) (k : Nat) : Prop := ∃ cs t fz, w.heap[k]? = some (.cells cs t fz)
theorem IsC.lt {w : World} {k : Nat} (h : IsC w k) : k < w.heap.size := by
  obtain ⟨cs, t, fz, h⟩ := h
  exact heap_lt h
theorem IsC.same {w w' : World} {k : Nat} (h : IsC w k) (e : w'.heap[k]? = w.heap[k]?) : IsC w' k := by
  obtain ⟨cs, t, fz, h⟩ := h
  exact ⟨cs, t, fz, e.trans h⟩
theorem rowOf_same {w w' : World} {B : Nat} (e : w'.heap[B]? = w.heap[B]?) : rowOf B w' = rowOf B w := by unfold rowOf; rw [e]
/-- a consumer that keeps what it takes in a row of its own, the row's slice in the box B -/
def KpC (B : Nat) (X Z : World) : Prop := X.heap.size ≤ Z.heap.size ∧ (IsC X B → IsC Z B ∧ (∀ k, IsC X k → k ≠ B → rowOf B X ≠ some k → Z.heap[k]? = X.heap[k]?) ∧ (rowOf B Z = rowOf B X ∨ ∃ r, rowOf B Z = some r ∧ X.heap.size ≤ r))
theorem KpC.refl (B : Nat) (X : World) : KpC B X X := ⟨Nat.le_refl _, fun h => ⟨h, fun _ _ _ _ => rfl, .inl rfl⟩⟩
theorem KpC.trans {B : Nat} {X Y Z : World} (h : KpC B X Y) (k : KpC B Y Z) : KpC B X Z := by
  refine ⟨Nat.le_trans h.1 k.1, fun hx => ?_⟩
  obtain ⟨h1, h2, h3⟩ := h.2 hx
  obtain ⟨k1, k2, k3⟩ := k.2 h1
  refine ⟨k1, fun j hj hB hr => ?_, ?_⟩
  · have e := h2 j hj hB hr
    refine (k2 j (hj.same e) hB (fun e2 => ?_)).trans e
    rcases h3 with h3 | ⟨r, h3, h4⟩
    · exact hr (h3.symm.trans e2)
    · rw [h3] at e2
      injection e2 with e2
      have := hj.lt
      omega
  · rcases k3 with k3 | ⟨r, k3, k4⟩
    · rcases h3 with h3 | ⟨r, h3, h4⟩
      · exact .inl (k3.trans h3)
      · exact .inr ⟨r, k3.trans h3, h4⟩
    · exact .inr ⟨r, k3, Nat.le_trans h.1 k4⟩
theorem KpC.putObj {B : Nat} (W : World) (l : Nat) (o o' : Obj) (ho : W.heap[l]? = some o) (hc : o.isCells = false) : KpC B W (W.putObj l o') := by
  have ne : ∀ k, IsC W k → k ≠ l := fun k ⟨cs, t, fz, hk⟩ e => by
    rw [e, ho] at hk
    injection hk with hk
    subst hk
    cases hc
  have sm : ∀ k, IsC W k → (W.putObj l o').heap[k]? = W.heap[k]? := fun k hk => World.putObj_heap_other (ne k hk)
  exact ⟨by simp, fun hB => ⟨hB.same (sm B hB), fun k hk _ _ => sm k hk, .inl (rowOf_same (sm B hB))⟩⟩
theorem KpC.below {B : Nat} {X Z : World} (hb : Below X.heap.size X Z) : KpC B X Z :=
  ⟨hb.size, fun h => ⟨h.same (hb.block B h.lt), fun k hk _ _ => hb.block k hk.lt, .inl (rowOf_same (hb.block B h.lt))⟩⟩
theorem grown_of_below {X Z : World} (hb : Below X.heap.size X Z) : X.grownBy Z none := ⟨hb.os, hb.tape, hb.output, hb.size, fun k hk _ => hb.block k hk⟩
theorem Tryz.below1Enters : ∀ args w, (callFunc 39 args).run Tryz.prog w = .ok (.enter 39 args) w := enters_of Tryz.func39 (by kernel_rfl) rfl
theorem Tryz.below11Enters : ∀ args w, (callFunc 42 args).run Tryz.prog w = .ok (.enter 42 args) w := enters_of Tryz.func42 (by kernel_rfl) rfl
set_option maxRecDepth 100000 in
set_option maxHeartbeats 4000000 in
theorem below1_seq {T rt rm base : Nat} {nd : List Nd} {o : Option Nd} {m : Nat} (Bs Bt Bp : Nat) (p : ByteArray) (w : World) (ht : TreeAt w T rt rm base nd) (hp : p.size < 4611686018427387904) (ho : findO nd p.data.toList = some o)
    (hd : ∀ y ∈ nd, (pcs y.e.path).length ≤ m + (PP (spotQ o)).length) (hn : (dfs nd m (spotQ o)).length ≤ 4096) (hT : w.cell? ⟨Bt, 0, none⟩ = some (.pointer (some ⟨T, 0, none⟩))) (hP : w.cell? ⟨Bp, 0, none⟩ = some (.string p)) (hBt : Bt < w.heap.size) (hBp : Bp < w.heap.size)
    (hC : IsC w Bs) (hR : ∀ r, rowOf Bs w = some r → r < w.heap.size) :
    SeqL Tryz.prog 39 #[.pointer (some ⟨Bt, 0, none⟩), .pointer (some ⟨Bp, 0, none⟩)] (fun e : Ent => #[.agg #[.string e.p, .int .i64 e.k, .int .i64 e.m, .string e.d, .string e.l]]) (KpC Bs) ((dfs nd m (spotQ o)).map (·.e)) w := by
  intro l J Jx W hW hJ hJx hY h0
  have hT2 : W.cell? ⟨Bt, 0, none⟩ = some (.pointer (some ⟨T, 0, none⟩)) := (hW.cell (p := ⟨Bt, 0, none⟩) hBt).trans hT
  have hP2 : W.cell? ⟨Bp, 0, none⟩ = some (.string p) := (hW.cell (p := ⟨Bp, 0, none⟩) hBp).trans hP
  have htW := ht.below hW (Nat.le_refl _)
  have hCW : IsC W Bs := hC.same (hW.block Bs hC.lt)
  have hRW : ∀ r, rowOf Bs W = some r → r < W.heap.size := fun r hr => by
    rw [rowOf_same (hW.block Bs hC.lt)] at hr
    exact Nat.lt_of_lt_of_le (hR r hr) hW.size
  have hfi := htW.good.fine
  have hin := (findO_in ho).1
  have hfind := fun X (hX : TreeAt X T rt rm base nd) => find_any p X hX hp
  rw [ho, spotP_some] at hfind
  obtain ⟨L, hL⟩ : ∃ L, L = (dfs nd m (spotQ o)).map (·.e) := ⟨_, rfl⟩
  have hLn : L.length ≤ 4096 := by rw [hL, List.length_map]; exact hn
  have hbel : ∀ X, Below W.heap.size W X → X.heap.size = W.heap.size → Calls Tryz.prog 41 #[.pointer (some ⟨spotB rt o, 0, none⟩), .func (.func 42) #[] #[.pointer (some ⟨W.heap.size, 0, none⟩)]] (X.alloc (.cells #[.slice none 0 0] 22)) fun r X2 =>
      r = .returned (.bool true) ∧ Below W.heap.size W X2 ∧ ∃ v, Boxed X2 W.heap.size 22 v ∧ X2.ownsRow W.heap.size 39 5 v L.length (L.flatMap entC) := by
    intro X hX hXs
    have hY0 : ColY rt rm nd W.heap.size W.heap.size [] [W.heap.size] (X.alloc (.cells #[.slice none 0 0] 22)) := by
      refine ⟨((htW.below hX (Nat.le_refl _)).alloc _).nodes, fun b hb => htW.lt (htW.nblk hb), by simp; omega, Nat.le_refl _, .slice none 0 0, ?_, World.ownsRow_nil _ _ _ _, rfl⟩
      have h := Boxed.new X 22 (.slice none 0 0)
      rw [hXs] at h
      exact h
    refine (below_all (col_yields rt rm nd W.heap.size W.heap.size) Tryz.below11Enters hfi m o hin hd [] [W.heap.size] _ (by simp; omega) hY0).mono ?_
    rintro r X2 ⟨rfl, F, hY2, hb2, _⟩
    rw [List.nil_append, ← hL] at hY2
    obtain ⟨_, _, _, _, v, h5, h6, _⟩ := hY2
    refine ⟨rfl, ?_, v, h5, h6⟩
    have h7 : Below W.heap.size (X.alloc (.cells #[.slice none 0 0] 22)) X2 := hb2.to_below (by simp; omega) (fun k hk => by rw [List.mem_singleton.1 hk]; exact Nat.le_refl _)
    exact (hX.alloc (by omega) _).trans h7
  have HJ := Lib.hid hJ
  have HY := Lib.hid hY
  have H0 := Lib.hid h0
  have HT := Lib.hid htW
  have HC := Lib.hid hCW
  have HR := Lib.hid hRW
  have Hfind := Lib.hid hfind
  have Hbel := Lib.hid hbel
  have HL := Lib.hid hL
  rw [← hL] at HY ⊢
  clear hJ hJx hY h0 htW hCW hRW hfind hbel hL ht hW hT hP hC hR hd hn hfi hin ho
  obtain ⟨n, hn⟩ : ∃ n, n = L.length := ⟨_, rfl⟩
  rw [← hn] at hLn
  have Hn := Lib.hid hn
  clear hn
  refine callsIn_of_wp Tryz.func39 rfl trivial ?_ rfl
  simp only [Tryz.ntmps39, List.size_toArray, List.length_cons, List.length_nil, Nat.reduceAdd, Nat.reduceSub, Array.replicate_succ, Array.replicate_zero, List.push_toArray, List.append_toArray, List.nil_append, List.cons_append]
  gi_wp2_with (first
    | (refine ⟨trivial, rfl, ?_⟩; gi_at_call 40; refine CallsIn.mono (callsIn_wide.2 (Hfind.out _ HT.out)) ?_; rintro e w1 ⟨rfl, hs1⟩
       obtain ⟨q, rfl⟩ := hs1))
  refine ⟨trivial, rfl, ?_⟩
  gi_at_call 41
  refine CallsIn.mono (callsIn_wide.2 (Hbel.out (W.drewN q) (below_drewN (Below.refl _ _) q) rfl)) ?_
  rintro e w2 ⟨rfl, hb2, v, hv, hrow⟩
  obtain ⟨so, cap, rfl, hlc, hcm, hcells⟩ := ents_of_row hrow
  rw [← Hn.out] at hv hlc
  have hvc := hv.cell
  have hlow : ∀ a, so = some a → W.heap.size ≤ a.block ∧ IsC w2 a.block := fun a ha => by
    rcases hrow.2 with ⟨e1, _⟩ | ⟨g, cap', cur, e1, hg1, hg2, _⟩
    · injection e1 with e1 _ _
      rw [ha] at e1
      cases e1
    · injection e1 with e1 _ _
      rw [ha] at e1
      injection e1 with e1
      subst e1
      exact ⟨hg1, _, _, _, hg2⟩
  have hJ2 : J [] w2 := HJ.out [] W w2 none H0.out (grown_of_below hb2) (fun r e => by cases e)
  have hC2 : IsC w2 Bs := HC.out.same (hb2.block Bs HC.out.lt)
  have hR2 : ∀ a, so = some a → rowOf Bs w2 ≠ some a.block := fun a ha e => by
    rw [rowOf_same (hb2.block Bs HC.out.lt)] at e
    have h1 := HR.out _ e
    have h2 := (hlow a ha).1
    omega
  have hB2 : ∀ a, so = some a → a.block ≠ Bs := fun a ha e => by
    have h1 := HC.out.lt
    have h2 := (hlow a ha).1
    omega
  have hsz2 := hb2.size
  have Hcells := Lib.hid hcells
  have Hlow := Lib.hid hlow
  have HJ2 := Lib.hid hJ2
  have HC2 := Lib.hid hC2
  have HR2 := Lib.hid hR2
  have HB2 := Lib.hid hB2
  clear hb2 hcells hrow hv hlow hJ2 hC2 hR2 hB2
  gi_wp2_with fail
  gi_loopw [18, 7] (fun iv _ wr => ∃ k : Nat, iv = .int .i64 (k : Int) ∧ k ≤ n ∧ W.heap.size ≤ wr.heap.size ∧ J (L.take k) wr ∧ IsC wr Bs ∧ (∀ a, so = some a → wr.heap[a.block]? = w2.heap[a.block]? ∧ rowOf Bs wr ≠ some a.block)) (fun iv _ _ => n - (intOf iv).toNat)
  case atStart => exact ⟨0, rfl, Nat.zero_le _, hsz2, HJ2.out, HC2.out, fun a ha => ⟨rfl, HR2.out a ha⟩⟩
  case round =>
    obtain ⟨k, rfl, hk, hws, hJk, hCk, hRk⟩ := hrel
    by_cases hlt : k < n
    · obtain ⟨e, hek⟩ : ∃ e, L[k]? = some e := ⟨_, List.getElem?_eq_getElem (by rw [← Hn.out]; exact hlt)⟩
      obtain ⟨a, rfl, hal, hcs⟩ := Hcells.out k e hek
      have hcw : ∀ j x, ([.string e.p, .int .i64 e.k, .int .i64 e.m, .string e.d, .string e.l] : List Value)[j]? = some x → wr.cell? ((a.add (k * 5)).add j) = some x := fun j x hx => by
        have := hcs j x hx
        unfold World.cell? at this ⊢
        rw [add_block, add_block] at this ⊢
        rw [(hRk a rfl).1]
        exact this
      have hJ1 : J (L.take k) (wr.alloc (.cells #[.string e.p, .int .i64 e.k, .int .i64 e.m, .string e.d, .string e.l] 39)) := HJ.out.alloc _ hJk
      have hsplit : L = L.take k ++ e :: L.drop (k + 1) := by rw [← drop_step hek, List.take_append_drop]
      have htake : L.take k ++ [e] = L.take (k + 1) := take_step hek
      obtain ⟨fn, tmps, assign, body, hy, hround⟩ := HY.out (L.take k) e (L.drop (k + 1)) _ hsplit hJ1
      have Hround := Lib.hid hround
      have Hcw := Lib.hid hcw
      have Hsplit := Lib.hid hsplit
      have Htake := Lib.hid htake
      have HCk := Lib.hid hCk
      have HRk := Lib.hid (hRk a rfl)
      have Hca := Lib.hid (Hlow.out a rfl)
      have HBa := Lib.hid (HB2.out a rfl)
      clear hround hcw hsplit htake hJ1 hJk hCk hRk hcs hek
      gi_wp2_with (refine wpListIn_load_at rfl _ _ rfl (a.add (k * 5)) rfl [.string e.p, .int .i64 e.k, .int .i64 e.m, .string e.d, .string e.l] _ Hcw.out Tryz.underlying39 rfl (by kernel_rfl) ?_)
      refine ⟨rfl, Hround.out.mono ?_⟩
      rintro e4 W4 ⟨_, ⟨rfl, hJ3, hk3⟩ | ⟨rfl, hJx3⟩⟩
      · have hkp : KpC Bs wr W4 := (KpC.below ((Below.refl _ wr).alloc (Nat.le_refl _) _)).trans hk3
        have Hkp := Lib.hid hkp
        have HJ3 := Lib.hid hJ3
        clear hkp hk3 hJ3
        gi_wp2
        go_roundw
        case rel =>
          obtain ⟨z1, z2, z3⟩ := Hkp.out.2 HCk.out
          have hic : IsC wr a.block := Hca.out.2.same HRk.out.1
          refine ⟨k + 1, by go_num, by omega, by have := Hkp.out.1; omega, by rw [← Htake.out]; exact HJ3.out, z1, fun a' ha' => ?_⟩
          injection ha' with ha'
          subst ha'
          refine ⟨(z2 _ hic HBa.out HRk.out.2).trans HRk.out.1, fun e5 => ?_⟩
          rcases z3 with z3 | ⟨r, z3, z4⟩
          · exact HRk.out.2 (z3.symm.trans e5)
          · rw [z3] at e5
            injection e5 with e5
            have := hic.lt
            omega
        case measure => simp [intOf]; omega
      · have HJx := Lib.hid hJx3
        clear hJx3
        gi_wp2
        refine bodyPost_ret (results_none rfl _ _ _) rfl ?_
        exact ⟨⟨_, rfl⟩, .inr ⟨_, _, _, Hsplit.out, HJx.out⟩⟩
    · obtain rfl : k = n := by omega
      have HJk := Lib.hid (show J L wr by rw [Hn.out, List.take_length] at hJk; exact hJk)
      clear hJk hCk hRk
      gi_wp2
      go_end0
      exact ⟨⟨_, rfl⟩, .inl HJk.out⟩
end
section
open Go.RowKit Go.Maps Go.Shelf
open Go.Lib hiding intOf size_eq
attribute [local go_sem] Oper.semAt_some
/-- an entry as a value -/
def litE (e : Ent) : Value := .agg #[.string e.p, .int .i64 e.k, .int .i64 e.m, .string e.d, .string e.l]
theorem belowFn_any (T : Nat) (p : ByteArray) (W : World) : Calls Tryz.prog 22 #[.pointer (some ⟨T, 0, none⟩), .string p] W fun e w' => e = .returned (.func (.func 39) #[] #[.pointer (some ⟨W.heap.size, 0, none⟩), .pointer (some ⟨W.heap.size + 1, 0, none⟩)]) ∧ w' = (W.alloc (.cells #[.pointer (some ⟨T, 0, none⟩)] 24)).alloc (.cells #[.string p] 9) := by
  have hmf : ∀ (fn : Fn) (first cap : Array Value) (w : World), (Instr.makeFunc fn first cap).run Tryz.prog w = .ok (.func fn first cap) w := fun _ _ _ _ => rfl
  go_enter Tryz.func22, Tryz.ntmps22
  go_wp2
  go_ret
  exact ⟨rfl, rfl⟩
theorem row_putObj {W : World} {base D n size : Nat} {e : TypeId} {v : Value} {xs : List Value} (h : W.ownsRow base e size v n xs) {o : Obj} (o' : Obj) (hD : W.heap[D]? = some o) (ho : o.isCells = false) : (W.putObj D o').ownsRow base e size v n xs := by
  obtain ⟨h1, h2⟩ := h
  refine ⟨h1, ?_⟩
  rcases h2 with h2 | ⟨g, cap, cur, a, b, c, d⟩
  · exact .inl h2
  · refine .inr ⟨g, cap, cur, a, b, ?_, d⟩
    rw [World.putObj_heap_other]
    · exact c
    · rintro rfl
      rw [hD] at c
      injection c with c
      subst c
      cases ho
def ApI (W : World) (pre : List Ent) (Wx : World) : Prop :=
  (∃ v, Boxed Wx W.heap.size 22 v ∧ Wx.ownsRow W.heap.size 39 5 v pre.length (pre.flatMap entC) ∧ True) ∧ Below W.heap.size W Wx
theorem wpListIn_append_own_at {F : Fence} {n : Nat} {P : Program} (w : World) {ops : Array Oper} {rest : List Oper} {o : Oper} {a : Act} {Q : Exit → Act → World → Prop}
    (hg : o.guard = none) (s x : Operand) (t : TypeId) (hop : o.op = Op.call { callee := Callee.builtin Builtin.append, args := #[s, x], argTypes := #[t, t] })
    (base : Nat) (e : TypeId) (i : TypeInfo) (z : Value) (size bytes : Nat) (h1 : P.underlying t = some (.slice e)) (h2 : P.info? e = some i) (h3 : i.zero = some z) (h4 : i.size = size) (h5 : i.bytes = bytes) (h6 : z.cells.size = size) (h7 : 0 < size)
    (v : Value) (k : Nat) (xs : List Value) (hs : a.eval s = v) (hown : w.ownsRow base e size v k xs) (ad : Addr) (m c : Nat) (news : List Value) (hx : a.eval x = .slice (some ad) m c) (hn : news.length = m * size)
    (hc : ∀ j u, news[j]? = some u → w.cell? (ad.add j) = some u) (h1c : ∀ u ∈ news, u.oneCell' = true) (b1 : k + m ≤ maxLen) (b2 : (k + m) * bytes ≤ 140737488355328) (b3 : base ≤ w.heap.size)
    (hK : ∀ v' w', w'.ownsRow base e size v' (k + m) (xs ++ news) → w.grownBy w' v.ownBlock → (v'.ownBlock = v.ownBlock ∨ v'.ownBlock = some w.heap.size) → wpListIn F n P ops Q rest (a.put o.dst v') w') :
    wpListIn F n P ops Q (o :: rest) a w := by
  refine wpListIn_plain hg fun K hK' => ?_
  obtain ⟨v', w', hrun, r1, r2, _, r4⟩ := run_append_own_at (P := P) w base t o.type e i z size bytes h1 h2 h3 h4 h5 h6 h7 v k xs hown ad m c news hn hc h1c b1 b2 b3
  unfold Oper.wpIn
  refine ⟨?_, ?_⟩
  · simp [Oper.about, hop, resolve, Target.leads, Sem.run_pure]
  · rw [Oper.semAt_plain F _ _ (by rw [hop]; intro c hc'; cases hc')]
    simp [execOp, hop, resolve, invoke, builtin, hs, hx, hrun, Result.andThen]
    exact hK' _ _ (hK v' w' r1 r2 r4)
theorem rowOf_box {W : World} {B : Nat} {t : TypeId} {v : Value} (h : Boxed W B t v) : rowOf B W = v.ownBlock := by
  have h' : W.heap[B]? = some (.cells #[v] t (0, 0)) := h
  unfold rowOf
  rw [h']
  rfl
theorem box_isC {W : World} {B : Nat} {t : TypeId} {v : Value} (h : Boxed W B t v) : IsC W B := ⟨_, _, _, h⟩
theorem kpc_append {B : Nat} {t : TypeId} {Wx w1 : World} {v v' : Value} {tmp : Obj} (hv : Boxed Wx B t v) (hgrow : (Wx.alloc tmp).grownBy w1 v.ownBlock) (hblk : v'.ownBlock = v.ownBlock ∨ v'.ownBlock = some (Wx.alloc tmp).heap.size) (hv2 : Boxed (w1.setCell ⟨B, 0, none⟩ v') B t v') :
    KpC B Wx (w1.setCell ⟨B, 0, none⟩ v') := by
  have hs : Wx.heap.size ≤ (Wx.alloc tmp).heap.size := by simp
  refine ⟨by have := hgrow.size; simp at this ⊢; omega, fun _ => ⟨box_isC hv2, fun k hk hB hr => ?_, ?_⟩⟩
  · rw [rowOf_box hv] at hr
    rw [heap_setCell_other w1 ⟨B, 0, none⟩ k v' hB, hgrow.block k (by have := hk.lt; simp; omega) (fun e => hr e.symm), heap_alloc_old Wx tmp hk.lt]
  · rw [rowOf_box hv2, rowOf_box hv]
    rcases hblk with h | h
    · exact .inl h
    · exact .inr ⟨_, h, hs⟩
/-- what a round of the collecting finds -/
def ApA (W : World) (g : Nat) (lb : Array Value) (x : Ent) (a : Act) (Wx : World) : Prop :=
  ∃ b, a = { tmps := #[.slice none 0 0, .func (.func g) #[] lb, .pointer (some ⟨W.heap.size, 0, none⟩), undef, .slice none 0 0, .pointer (some ⟨b, 0, none⟩), .func (.func g) #[] lb, .agg #[.string x.p, .int .i64 x.k, .int .i64 x.m, .string x.d, .string x.l], undef, undef, undef, undef, undef], defers := [] } ∧
    Wx.heap[b]? = some (.cells #[.string x.p, .int .i64 x.k, .int .i64 x.m, .string x.d, .string x.l] 39 (0, 0))
set_option maxRecDepth 100000 in
set_option maxHeartbeats 4000000 in
theorem appendSeq_any {g : Nat} {lb : Array Value} (eg : ∀ args w, (callFunc g args).run Tryz.prog w = .ok (.enter g args) w) (L : List Ent) (hL : L.length ≤ 4096) (W : World)
    (hseq : SeqL Tryz.prog g lb (fun e : Ent => #[.agg #[.string e.p, .int .i64 e.k, .int .i64 e.m, .string e.d, .string e.l]]) (KpC W.heap.size) L (W.alloc (.cells #[.slice none 0 0] 22))) :
    Calls Tryz.prog 38 #[.slice none 0 0, .func (.func g) #[] lb] W fun e w' => ∃ v, e = .returned v ∧ w'.ownsRow W.heap.size 39 5 v L.length (L.flatMap entC) ∧ Below W.heap.size W w' := by
  obtain ⟨i0, hi, hz0, hz1, hz2⟩ := info_parts Tryz.infoEntry
  obtain ⟨W1, hW1⟩ : ∃ x, x = W.alloc (.cells #[.slice none 0 0] 22) := ⟨_, rfl⟩
  rw [← hW1] at hseq
  have hbx : Boxed W1 W.heap.size 22 (.slice none 0 0) := by rw [hW1]; exact Boxed.new W _ _
  have hb1 : Below W.heap.size W W1 := by rw [hW1]; exact (Below.refl _ _).alloc (Nat.le_refl _) _
  have hs1 : W.heap.size ≤ W1.heap.size := hb1.size
  have Hi := Lib.hid hi
  have Hz0 := Lib.hid hz0
  have Hz1 := Lib.hid hz1
  have Hz2 := Lib.hid hz2
  have HW1 := Lib.hid hW1
  have Hseq := Lib.hid hseq
  have Heg := Lib.hid eg
  clear hi hz0 hz1 hz2 hW1 hseq eg
  refine (callsIn_wide (n := 0)).1 ?_
  refine callsIn_of_wp_marks Tryz.func38 rfl trivial ?_ rfl
  simp only [Tryz.ntmps38, List.size_toArray, List.length_cons, List.length_nil, Nat.reduceAdd, Nat.reduceSub, Array.replicate_succ, Array.replicate_zero, List.push_toArray, List.append_toArray, List.nil_append, List.cons_append]
  gi_wp2_with fail
  rw [← HW1.out]
  obtain ⟨n, hn⟩ : ∃ n, n = L.length := ⟨_, rfl⟩
  have Hn := Lib.hid hn
  rw [← hn] at hL
  clear hn
  refine wpIn_range (gf := g) (lb := lb) rfl Heg.out Hseq.out (fun h k => h.trans k) (fun W' l' o o' _ ho hc _ => KpC.putObj W' l' o o' ho hc) (Below.refl _ _) (fun _ => rfl)
    (ApI W) (fun _ _ _ => False)
    (OwnFrom.and (Own.from (holdsRow_own _ _ _ _ _ (fun pre : List Ent => pre.length) (fun pre => pre.flatMap entC) (fun _ _ => True)) _) (ownFrom_below (Nat.le_refl _) hs1))
    (fun _ _ _ _ _ hs _ _ => hs)
    ⟨⟨_, hbx, World.ownsRow_nil _ _ _ _, trivial⟩, hb1⟩
    (ApA W g lb)
    (fun x a' s A Bw row h hg hr => by
      obtain ⟨b, e1, e2⟩ := h
      refine ⟨b, e1, (hg.block b (heap_lt e2) (fun e => ?_)).trans e2⟩
      obtain ⟨_, o, h3, h4⟩ := hr b e.symm
      rw [e2] at h3
      injection h3 with h3
      subst h3
      cases h4) ?assign ?body ?done ?stop
  case assign =>
    intro l' pre x Wx K hI hK
    have hb3 := hI.2.alloc hI.2.size (.cells #[.string x.p, .int .i64 x.k, .int .i64 x.m, .string x.d, .string x.l] 39)
    obtain ⟨⟨v, hv, hrow, _⟩, hb⟩ := hI
    have hfin := hK { tmps := #[.slice none 0 0, .func (.func g) #[] lb, .pointer (some ⟨W.heap.size, 0, none⟩), undef, .slice none 0 0, .pointer (some ⟨Wx.heap.size, 0, none⟩), .func (.func g) #[] lb, .agg #[.string x.p, .int .i64 x.k, .int .i64 x.m, .string x.d, .string x.l], undef, undef, undef, undef, undef], defers := [] }
      (Wx.alloc (.cells #[.string x.p, .int .i64 x.k, .int .i64 x.m, .string x.d, .string x.l] 39)) ((KeepsOthers.alloc Wx _).from _) (KpC.below ((Below.refl _ _).alloc (Nat.le_refl _) _)) ⟨⟨v, hv.alloc _, hrow.alloc _, trivial⟩, hb3⟩ ⟨_, rfl, World.alloc_heap_new Wx _⟩
    clear hK hv hrow hb hb3
    gi_wp2
    exact hfin
  case body =>
    rintro l' pre x rest a' Wx hl hr hLs ⟨⟨v, hv, hrow, _⟩, hb⟩ ⟨b, rfl, hbb⟩
    have hvc := hv.cell
    have hvf := hv.frozen
    have hplen : pre.length < 4096 + 1 := by
      have h := congrArg List.length hLs
      rw [List.length_append, List.length_cons, ← Hn.out] at h
      omega
    have hbs := hb.size
    have hcells : ∀ j u, ([.string x.p, .int .i64 x.k, .int .i64 x.m, .string x.d, .string x.l] : List Value)[j]? = some u → Wx.cell? ((⟨b, 0, none⟩ : Addr).add j) = some u := ent_cells (e := x) hbb
    have hnew : ∀ j u, ([.string x.p, .int .i64 x.k, .int .i64 x.m, .string x.d, .string x.l] : List Value)[j]? = some u → (Wx.alloc (.cells #[.string x.p, .int .i64 x.k, .int .i64 x.m, .string x.d, .string x.l] 39)).cell? ((⟨Wx.heap.size, 0, none⟩ : Addr).add j) = some u := ent_cells (e := x) (World.alloc_heap_new Wx _)
    have Hb := Lib.hid hb
    have Hv := Lib.hid hv
    have Hrow := Lib.hid hrow
    have HL := Lib.hid hLs
    have Hcells := Lib.hid hcells
    have Hnew := Lib.hid hnew
    clear hb hv hrow hLs hcells hnew hbb
    generalize hm : pre.length = m at *
    have Hm := Lib.hid hm
    clear hm
    gi_wp2_with (first
      | (refine wpListIn_load_at rfl _ _ rfl ⟨b, 0, none⟩ rfl [.string x.p, .int .i64 x.k, .int .i64 x.m, .string x.d, .string x.l] _ Hcells.out Tryz.underlying39 rfl (by kernel_rfl) ?_)
      | (gi_at_builtin; refine wpListIn_append_own_at _ rfl _ _ 22 rfl W.heap.size 39 i0 _ 5 64 Tryz.underlying22 Hi.out Hz0.out Hz1.out Hz2.out rfl (by decide) _ _ _ rfl (Hrow.out.alloc _) ⟨Wx.heap.size, 0, none⟩ 1 1 [.string x.p, .int .i64 x.k, .int .i64 x.m, .string x.d, .string x.l] rfl rfl Hnew.out (by simp [Value.oneCell']) (by unfold maxLen; omega) (by omega) (by simp; omega) ?_; intro v' w1 hown' hgrow hblk; obtain ⟨g', cap', rfl⟩ := ownsRow_succ hown'; obtain ⟨hv1, hv2, hr2, hk2, hb3⟩ := Hv.out.appended (by decide) Hrow.out hbs (Nat.le_refl _) hown' hgrow; have hc1 := hv1.cell; have hf1 := hv1.frozen
         have Hkpc := Lib.hid (kpc_append Hv.out hgrow hblk hv2)
         have Hv2 := Lib.hid hv2
         have Hr2 := Lib.hid hr2
         have Hk2 := Lib.hid hk2
         have Hb3 := Lib.hid hb3
         clear hown' hgrow hblk hv1 hv2 hr2 hk2 hb3))
    exact ⟨Hk2.out.from _, Hkpc.out, ⟨_, Hv2.out, by rw [List.length_append, List.length_singleton, List.flatMap_append, List.flatMap_singleton, Hm.out]; exact Hr2.out, trivial⟩, Hb.out.trans Hb3.out⟩
  case done =>
    rintro D Wd hD ⟨⟨v, hv, hrow, _⟩, hb⟩ hK
    have hvc := hv.cell
    have Hb := Lib.hid hb
    have Hv := Lib.hid hv
    have Hrow := Lib.hid hrow
    have HK := Lib.hid hK
    clear hb hv hrow hK
    gi_wp2_with fail
    exact leave_mark HK.out (results_tmp rfl _ _ _) ⟨v, rfl, row_putObj Hrow.out _ HK.out rfl, below_putObj Hb.out _ (by omega)⟩
  case stop =>
    rintro D c pre x rest Wd hD hLs h hK
    exact h.elim
theorem checkNo_depth {l : List UInt8} (h : checkNo l = 0) : (pcs l).length ≤ 32 := by
  unfold checkNo at h
  by_cases h0 : l = []
  · rw [if_pos h0] at h; cases h
  rw [if_neg h0] at h
  by_cases h1 : (pcs l).any (fun p => !nameOk p) = true
  · rw [if_pos h1] at h; cases h
  rw [if_neg h1] at h
  by_cases h2 : 32 < (pcs l).length ∨ 255 < l.length
  · rw [if_pos h2] at h; cases h
  · omega
theorem Good.deep {nd : List Nd} (h : Good (ents nd)) : ∀ y ∈ nd, (pcs y.e.path).length ≤ 32 := fun y hy => checkNo_depth (itselfNo_check (h.it y.e (List.mem_map.2 ⟨y, hy, rfl⟩)))
theorem dfs_all {nd : List Nd} (h : Good (ents nd)) : dfs nd 32 [] = nd := dfs_root h.fine.wf h.fine.ord h.deep
set_option maxRecDepth 100000 in
theorem collect_any {g : Nat} {lb : Array Value} (eg : ∀ args w, (callFunc g args).run Tryz.prog w = .ok (.enter g args) w) (L : List Ent) (hL : L.length ≤ 4096) (W : World)
    (hseq : SeqL Tryz.prog g lb (fun e : Ent => #[.agg #[.string e.p, .int .i64 e.k, .int .i64 e.m, .string e.d, .string e.l]]) (KpC W.heap.size) L (W.alloc (.cells #[.slice none 0 0] 22))) :
    Calls Tryz.prog 21 #[.func (.func g) #[] lb] W fun e w' => ∃ v, e = .returned v ∧ w'.ownsRow W.heap.size 39 5 v L.length (L.flatMap entC) ∧ Below W.heap.size W w' := by
  have H := Lib.hid (appendSeq_any eg L hL W hseq)
  clear hseq eg
  go_enter Tryz.func21, Tryz.ntmps21
  go_wp2_with (go_at_call 38; refine H.out.mono ?_; rintro r w1 ⟨v, rfl, hr, hb⟩
               have HR := Lib.hid hr
               have HB := Lib.hid hb
               clear hr hb)
  go_ret
  exact ⟨v, rfl, HR.out, HB.out⟩
set_option maxRecDepth 100000 in
theorem list_any {T rt rm base : Nat} {nd : List Nd} (W : World) (ht : TreeAt W T rt rm base nd) :
    Calls Tryz.prog 11 #[.pointer (some ⟨T, 0, none⟩)] W fun e w' => ∃ v, e = .returned v ∧ w'.ownsRow W.heap.size 39 5 v (ents nd).length ((ents nd).flatMap entC) ∧ Below W.heap.size W w' := by
  obtain ⟨W1, hW1⟩ : ∃ x, x = (W.alloc (.cells #[.pointer (some ⟨T, 0, none⟩)] 24)).alloc (.cells #[.string ⟨#[]⟩] 9) := ⟨_, rfl⟩
  have hs1 : W1.heap.size = W.heap.size + 2 := by rw [hW1]; simp
  have hb1 : Below W.heap.size W W1 := by rw [hW1]; exact ((Below.refl _ _).alloc (Nat.le_refl _) _).alloc (by simp) _
  have hT1 : W1.cell? ⟨W.heap.size, 0, none⟩ = some (.pointer (some ⟨T, 0, none⟩)) := by
    rw [hW1, World.cell?_alloc_lt _ _ _ (by simp)]
    exact (Boxed.new W 24 _).cell
  have hP1 : W1.cell? ⟨W.heap.size + 1, 0, none⟩ = some (.string ⟨#[]⟩) := by
    have h := (Boxed.new (W.alloc (.cells #[.pointer (some ⟨T, 0, none⟩)] 24)) 9 (.string ⟨#[]⟩)).cell
    rw [World.size_alloc] at h
    rw [hW1]
    exact h
  have hbox := Boxed.new W1 22 (.slice none 0 0)
  have hgood := ht.good
  have hseq := below1_seq (m := 32) (o := none) W1.heap.size W.heap.size (W.heap.size + 1) ⟨#[]⟩ (W1.alloc (.cells #[.slice none 0 0] 22)) ((ht.below hb1 (Nat.le_refl _)).alloc _) (by decide) rfl
    (fun y hy => by rw [show spotQ none = [] from rfl, PP_nil]; exact hgood.deep y hy) (by rw [show spotQ none = [] from rfl, dfs_all hgood]; exact hgood.fine.len)
    (by rw [World.cell?_alloc_lt _ _ _ (by simp; omega)]; exact hT1) (by rw [World.cell?_alloc_lt _ _ _ (by simp; omega)]; exact hP1) (by simp; omega) (by simp; omega) (box_isC hbox) (fun r hr => by rw [rowOf_box hbox] at hr; cases hr)
  rw [show spotQ none = [] from rfl, dfs_all hgood] at hseq
  have H := Lib.hid (collect_any Tryz.below1Enters (ents nd) (by rw [ents_length]; exact hgood.fine.len) W1 hseq)
  have HB := Lib.hid (belowFn_any T ⟨#[]⟩ W)
  have HW1 := Lib.hid hW1
  have Hb1 := Lib.hid hb1
  have Hs1 := Lib.hid hs1
  clear ht hseq hW1 hb1 hs1 hT1 hP1 hbox hgood
  go_enter Tryz.func11, Tryz.ntmps11
  go_wp2_with (first
    | (go_at_call 22; refine HB.out.mono ?_; rintro r w1 ⟨rfl, hw1⟩
       obtain rfl := hw1.trans HW1.out.symm
       clear hw1)
    | (go_at_call 21; refine H.out.mono ?_; rintro r w2 ⟨v, rfl, hr, hb⟩
       have HR := Lib.hid (ownsRow_base_a hr (show W.heap.size ≤ w1.heap.size by have := Hs1.out; omega))
       have HB2 := Lib.hid (Hb1.out.trans (hb.mono (by have := Hs1.out; omega)))
       clear hr hb))
  go_ret
  exact ⟨v, rfl, HR.out, HB2.out⟩
end
end Go.Proofs.YtdkodedocklmdaaGreat
