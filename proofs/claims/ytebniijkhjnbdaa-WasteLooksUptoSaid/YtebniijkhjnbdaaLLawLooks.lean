/- The walk of WasteLooks. -/
import Derived.Test.YtebniijkhjnbdaaLWorks
import Derived.Test.YtebniijkhjnbdaaLRefE
import Derived.Test.YtebniijkhjnbdaaLSameW
import Derived.Test.YtebniijkhjnbdaaLDel
import Derived.Test.YtebniijkhjnbdaaApLosts
set_option linter.unusedSimpArgs false
set_option linter.unusedVariables false
set_option exponentiation.threshold 3000
namespace Go.Proofs.Ytebniijkhjnbdaa
open Go.RowKit Go.Maps
open Go.Lib hiding intOf size_eq
/-- a Waste in a block of its own, and its list -/
structure Lk (W : World) (b : Nat) (T le : Int) (sc me sp : Nat) (vw : Value) (R : List LostB) : Prop where
  blk : W.heap[b]? = some (.cells #[.int .i64 T, .int .i64 le, .float .f64 sc, .float .f64 me, .float .f64 sp, vw] 27 (0, 0))
  its : ItemsAt lostC 3 W vw R
theorem Lk.below {w W : World} {b : Nat} {T le : Int} {sc me sp : Nat} {vw : Value} {R : List LostB} (h : Lk w b T le sc me sp vw R) (hb : Below w.heap.size w W) : Lk W b T le sc me sp vw R := ⟨cell_grown_B hb h.blk, h.its.below hb (Nat.le_refl _)⟩
theorem Lk.new {w : World} {T le : Int} {sc me sp : Nat} {vw : Value} {R : List LostB} (h : ItemsAt lostC 3 w vw R) : Lk (w.alloc (.cells #[.int .i64 T, .int .i64 le, .float .f64 sc, .float .f64 me, .float .f64 sp, vw] 27)) w.heap.size T le sc me sp vw R :=
  ⟨World.alloc_heap_new w _, h.below ((Below.refl w.heap.size w).alloc (Nat.le_refl _) _) (Nat.le_refl _)⟩
theorem Lk.cells {W : World} {b : Nat} {T le : Int} {sc me sp : Nat} {vw : Value} {R : List LostB} (h : Lk W b T le sc me sp vw R) :
    W.cell? ⟨b, 0, none⟩ = some (.int .i64 T) ∧ W.cell? ⟨b, 1, none⟩ = some (.int .i64 le) ∧ W.cell? ⟨b, 2, none⟩ = some (.float .f64 sc) ∧ W.cell? ⟨b, 3, none⟩ = some (.float .f64 me) ∧ W.cell? ⟨b, 4, none⟩ = some (.float .f64 sp) ∧ W.cell? ⟨b, 5, none⟩ = some vw :=
  ⟨block_cell h.blk rfl, block_cell h.blk rfl, block_cell h.blk rfl, block_cell h.blk rfl, block_cell h.blk rfl, block_cell h.blk rfl⟩
/-- what a look answers: common to both sides -/
theorem look_both (v : Value) (LL : List (List Chg)) (R : List LostB) (T le : Nat) (hR : R = (worstR (flatC LL)).map LostN.by) (hT : T = totalR (flatC LL)) (hle : le = leastR (flatC LL)) (W : World) (h : DeltasAt W v LL) (hn : LL.length ≤ 1048576) (hm : (flatC LL).length ≤ 1048576) (ht : totalR (flatC LL) ≤ 1048576) (hp : ∀ L ∈ LL, ∀ c ∈ L, c.p.size ≤ 1048576) :
    (Calls Try.prog 8 #[v] W fun r w' => ∃ (o : Option Addr) (c sc me sp : Nat), r = .returned (.agg #[.int .i64 (T : Int), .int .i64 (le : Int), .float .f64 sc, .float .f64 me, .float .f64 sp, .slice o R.length c]) ∧ LookV T le (LL.map sizeC) sc me sp ∧ ItemsAt lostC 3 w' (.slice o R.length c) R ∧ Below W.heap.size W w') ∧
    (Calls Try.prog 10 #[v] W fun r w' => ∃ (o : Option Addr) (c sc me sp : Nat), r = .returned (.agg #[.int .i64 (T : Int), .int .i64 (le : Int), .float .f64 sc, .float .f64 me, .float .f64 sp, .slice o R.length c]) ∧ LookV T le (LL.map sizeC) sc me sp ∧ w'.ownsRow W.heap.size 36 3 (.slice o R.length c) R.length (R.flatMap lostC) ∧ (R.length = 0 → (.slice o R.length c : Value) = .slice none 0 0) ∧ Below W.heap.size W w') := by
  have hl : (worstR (flatC LL)).length = R.length := by rw [hR, List.length_map]
  refine ⟨(rlook_any v LL W h hn hm ht hp).mono ?_, (look_anyN v LL W h hn hm ht hp).mono ?_⟩
  · rintro r w' ⟨vw, sc, me, sp, rfl, hv, hrow, hb⟩
    rw [hl, ← hR] at hrow
    rw [← hT, ← hle] at hv
    have hit := items_of_row lostC_len hrow
    obtain ⟨o, c, rfl⟩ := row_formG hrow
    exact ⟨o, c, sc, me, sp, by rw [hT, hle]; rfl, hv, hit, hb⟩
  · rintro r w' ⟨vw, sc, me, sp, rfl, hv, hrow, hb, hnil⟩
    rw [hl, ← hR] at hrow
    rw [hl] at hnil
    rw [← hT, ← hle] at hv
    obtain ⟨o, c, rfl⟩ := row_formG hrow
    exact ⟨o, c, sc, me, sp, by rw [hT, hle]; rfl, hv, hrow, hnil, hb⟩
theorem total_sizesW : ∀ LL : List (List Chg), totalR (flatC LL) = (LL.map sizeC).sum
  | [] => rfl
  | L :: LL => by
    have e : flatC (L :: LL) = L.map cwOf ++ flatC LL := by unfold flatC; rw [List.flatten_cons, List.map_append]
    rw [e, totalR_append, total_sizesW LL, List.map_cons, List.sum_cons]
    rfl
def xeOf (x : LostB) : ApLosts.XE := ⟨x.p, (x.t : Int), (x.b : Int)⟩
theorem xe_flat (R : List LostB) : (R.map xeOf).flatMap ApLosts.xeC = R.flatMap lostC := by
  induction R with
  | nil => rfl
  | cons x R ih => rw [List.map_cons, List.flatMap_cons, List.flatMap_cons, ih]; rfl
theorem rowE_of {W : World} {base B : Nat} {v : Value} {R : List LostB} {n : Nat} (hn : n = R.length) (h : W.ownsRow B 36 3 v n (R.flatMap lostC)) (h0 : n = 0 → v = .slice none 0 0) (hB : base ≤ B) : ApLosts.RowE W base v n (R.map xeOf) :=
  ⟨by rw [xe_flat]; exact row_base h hB, h0⟩
theorem own_lt {W : World} {B n : Nat} {v : Value} {xs : List Value} {b : Nat} (h : W.ownsRow B 36 3 v n xs) (hb : v.ownBlock = some b) : B ≤ b ∧ b < W.heap.size := by
  have := World.ownsRow.lt h b hb
  exact ⟨this.1, this.2⟩
attribute [local irreducible] wpStill
set_option maxRecDepth 100000 in
set_option maxHeartbeats 16000000 in
theorem wasteLooks_any (v0 v1 : Value) (L M : List (List Chg)) (w : World) (h0 : DeltasAt w v0 L) (h1 : DeltasAt w v1 M) (hn : L.length ≤ 1048576) (hm : (flatC L).length ≤ 1048576) (ht : totalR (flatC L) ≤ 1048576) (hn1 : M.length ≤ 1048576) (hm1 : (flatC M).length ≤ 1048576) (ht1 : totalR (flatC M) ≤ 1048576)
    (hp : ∀ x ∈ L, ∀ c ∈ x, c.p.size ≤ 1048576) (hp1 : ∀ x ∈ M, ∀ c ∈ x, c.p.size ≤ 1048576) :
    Calls Try.prog 3 #[v0, v1] w fun r w' => r = .returned (.bool true) ∧ Below w.heap.size w w' := by
  have hc0 := crowded_any v0 L w h0 hn hm
  have hc1 := crowded_any v1 M w h1 hn1 hm1
  obtain ⟨RL, hRL⟩ : ∃ y, y = (worstR (flatC L)).map LostN.by := ⟨_, rfl⟩
  obtain ⟨T, hT⟩ : ∃ y, y = totalR (flatC L) := ⟨_, rfl⟩
  obtain ⟨le, hle⟩ : ∃ y, y = leastR (flatC L) := ⟨_, rfl⟩
  obtain ⟨RM, hRM⟩ : ∃ y, y = (worstR (flatC M)).map LostN.by := ⟨_, rfl⟩
  obtain ⟨T', hT'⟩ : ∃ y, y = totalR (flatC M) := ⟨_, rfl⟩
  obtain ⟨le', hle'⟩ : ∃ y, y = leastR (flatC M) := ⟨_, rfl⟩
  have hLL : ∀ (v : Value) (W : World), DeltasAt W v L → _ := fun v W h => look_both v L RL T le hRL hT hle W h hn hm ht hp
  have hMM : ∀ (v : Value) (W : World), DeltasAt W v M → _ := fun v W h => look_both v M RM T' le' hRM hT' hle' W h hn1 hm1 ht1 hp1
  have hlen : ∀ x ∈ L, x.length ≤ 1048576 := fun x hx => by
    obtain ⟨i, hi⟩ := List.getElem?_of_mem hx
    obtain ⟨R', hR'⟩ := flatC_split hi
    rw [hR'] at hm
    simp at hm
    omega
  have hlent := fun (W : World) (hW : DeltasAt W v0 L) => lentDs_any v0 L W hW hn hlen
  have hkept := fun (va : Value) (B : Nat) (W : World) (ha : LentDs W B va L) (hb : DeltasAt W v0 L) => keptDs_any va v0 L B W ha hb hn hlen
  have hwl : RL.length ≤ T := by rw [hRL, hT, List.length_map]; exact worst_len _
  have hwm : RM.length ≤ T' := by rw [hRM, hT', List.length_map]; exact worst_len _
  have hsame : ∀ (sc me sp sc' me' sp' : Nat), LookV T le (L.map sizeC) sc me sp → LookV T le (L.map sizeC) sc' me' sp' → Fok sc sc' ∧ Fok me me' ∧ Fok sp sp' := fun _ _ _ _ _ _ a b => a.same b (by omega) (by rw [hle, hT]; have := worst_sum (flatC L); omega) (by rw [List.length_map]; exact hn) (fun x hx => by
    have h2 := mem_le_sum hx
    rw [← total_sizesW] at h2
    omega)
  have hsame' : ∀ (sc me sp sc' me' sp' : Nat), LookV T' le' (M.map sizeC) sc me sp → LookV T' le' (M.map sizeC) sc' me' sp' → Fok sc sc' ∧ Fok me me' ∧ Fok sp sp' := fun _ _ _ _ _ _ a b => a.same b (by omega) (by rw [hle', hT']; have := worst_sum (flatC M); omega) (by rw [List.length_map]; exact hn1) (fun x hx => by
    have h2 := mem_le_sum hx
    rw [← total_sizesW] at h2
    omega)
  have hTT : T ≤ 1048576 := by omega
  have hTT' : T' ≤ 1048576 := by omega
  obtain ⟨o0, cap0, rfl, hlc0, hcm0⟩ := h0.len
  obtain ⟨o1, cap1, rfl, hlc1, hcm1⟩ := h1.len
  obtain ⟨n0, hn0⟩ : ∃ n, n = L.length := ⟨_, rfl⟩
  obtain ⟨n1, hn1d⟩ : ∃ n, n = M.length := ⟨_, rfl⟩
  obtain ⟨rl, hrl⟩ : ∃ n, n = RL.length := ⟨_, rfl⟩
  obtain ⟨rm, hrm⟩ : ∃ n, n = RM.length := ⟨_, rfl⟩
  rw [← hn0] at hc0 hlent hkept h0 ⊢
  rw [← hn1d] at hc1 h1 ⊢
  rw [← hrl] at hLL hwl
  rw [← hrm] at hMM hwm
  have HC0 := Lib.hid hc0
  have HC1 := Lib.hid hc1
  have HLL := Lib.hid hLL
  have HMM := Lib.hid hMM
  have Hlent := Lib.hid hlent
  have Hkept := Lib.hid hkept
  have H0 := Lib.hid h0
  have H1 := Lib.hid h1
  have Hrl := Lib.hid hrl
  have Hn0 := Lib.hid hn0
  have Hrm := Lib.hid hrm
  have HW := Lib.hid works_any
  have hsf := fun (x : Addr) (b : Nat) (m : Mode) (W : World) => run_store Try.prog W x (.float .f64 b) m rfl
  clear hc0 hc1 hLL hMM hlent hkept h0 h1 hrl hrm hRL hT hle hRM hT' hle' hn hm ht hn1 hm1 ht1 hp hp1 hlen hn0 hn1d
  go_enter Try.func3, Try.ntmps3
  go_wp2_with fail
  refine HC0.out.mono ?_
  rintro r w' ⟨b0, rfl, _, rfl⟩
  cases b0 with
  | true =>
    go_wp2_with fail
    go_ret
    exact ⟨rfl, Below.refl _ _⟩
  | false =>
  go_wp2_with fail
  refine HC1.out.mono ?_
  rintro r w' ⟨b1, rfl, _, rfl⟩
  cases b1 with
  | true =>
    go_wp2_with fail
    go_ret
    exact ⟨rfl, Below.refl _ _⟩
  | false =>
  clear HC0 HC1
  have HB0 := Lib.hid (Below.refl w.heap.size w)
  go_wp2_with fail
  refine (HLL.out _ _ (H0.out.below HB0.out (Nat.le_refl _))).1.mono ?_
  rintro r w1 ⟨oA, cA, scA, meA, spA, rfl, lvA, itA, hb⟩
  have HBx := Lib.hid (HB0.out.trans (hb.mono HB0.out.size))
  have LVA := Lib.hid lvA
  have ITA := Lib.hid itA
  clear hb lvA itA
  go_upto_region 4 with fail
  have hl : Lk (w1.alloc (.cells #[.int .i64 (T : Int), .int .i64 (le : Int), .float .f64 scA, .float .f64 meA, .float .f64 spA, .slice oA rl cA] 27)) w1.heap.size (T : Int) (le : Int) scA meA spA (.slice oA rl cA) RL := Lk.new ITA.out
  have hb := (Below.refl w1.heap.size w1).alloc (Nat.le_refl _) (.cells #[.int .i64 (T : Int), .int .i64 (le : Int), .float .f64 scA, .float .f64 meA, .float .f64 spA, .slice oA rl cA] 27)
  obtain ⟨w2, hw⟩ : ∃ y, y = w1.alloc (.cells #[.int .i64 (T : Int), .int .i64 (le : Int), .float .f64 scA, .float .f64 meA, .float .f64 spA, .slice oA rl cA] 27) := ⟨_, rfl⟩
  rw [← hw] at hl hb ⊢
  obtain ⟨bA, hbd⟩ : ∃ y, y = w1.heap.size := ⟨_, rfl⟩
  rw [← hbd] at hl ⊢
  have LKA := Lib.hid hl
  have HB2 := Lib.hid (HBx.out.trans (hb.mono HBx.out.size))
  have HBy := HBx
  clear HBx
  skip
  clear hl hb hw hbd ITA HBy
  go_wp2_with fail
  refine (HMM.out _ _ (H1.out.below HB2.out (Nat.le_refl _))).1.mono ?_
  rintro r w3 ⟨oB, cB, scB, meB, spB, rfl, lvB, itB, hb⟩
  have HBx := Lib.hid (HB2.out.trans (hb.mono HB2.out.size))
  have LKA := Lib.hid (LKA.out.below hb)
  have LVB := Lib.hid lvB
  have ITB := Lib.hid itB
  clear hb lvB itB
  go_upto_region 5 with fail
  have hl : Lk (w3.alloc (.cells #[.int .i64 (T' : Int), .int .i64 (le' : Int), .float .f64 scB, .float .f64 meB, .float .f64 spB, .slice oB rm cB] 27)) w3.heap.size (T' : Int) (le' : Int) scB meB spB (.slice oB rm cB) RM := Lk.new ITB.out
  have hb := (Below.refl w3.heap.size w3).alloc (Nat.le_refl _) (.cells #[.int .i64 (T' : Int), .int .i64 (le' : Int), .float .f64 scB, .float .f64 meB, .float .f64 spB, .slice oB rm cB] 27)
  obtain ⟨w4, hw⟩ : ∃ y, y = w3.alloc (.cells #[.int .i64 (T' : Int), .int .i64 (le' : Int), .float .f64 scB, .float .f64 meB, .float .f64 spB, .slice oB rm cB] 27) := ⟨_, rfl⟩
  rw [← hw] at hl hb ⊢
  obtain ⟨bB, hbd⟩ : ∃ y, y = w3.heap.size := ⟨_, rfl⟩
  rw [← hbd] at hl ⊢
  have LKB := Lib.hid hl
  have HB4 := Lib.hid (HBx.out.trans (hb.mono HBx.out.size))
  have HBy := HBx
  clear HBx
  skip
  have LKA := Lib.hid (LKA.out.below hb)
  clear hl hb hw hbd ITB HBy
  go_wp2_with fail
  refine (Hlent.out _ (H0.out.below HB4.out (Nat.le_refl _))).mono ?_
  rintro r w5 ⟨vx, rfl, hx, hb⟩
  have HB5 := Lib.hid (HB4.out.trans (hb.mono HB4.out.size))
  have LKA := Lib.hid (LKA.out.below hb)
  have LKB := Lib.hid (LKB.out.below hb)
  have HX := Lib.hid hx
  clear hb hx
  have HZ := Lib.hid (Below.refl w5.heap.size w5)
  skip
  have hxf : ∃ g c, vx = .slice (some ⟨g, 0, none⟩) n0 c := by
    obtain ⟨g, c, vs, h1, _⟩ := HX.out
    exact ⟨g, c, by rw [h1, ← Hn0.out]⟩
  obtain ⟨gx, cx, rfl⟩ := hxf
  go_wp2_with fail
  refine (HLL.out _ _ ((HX.out.below HZ.out (Nat.le_refl _)).deltas)).2.mono ?_
  rintro r w6 ⟨oC, cC, scC, meC, spC, rfl, lvC, rwC, nlC, hb⟩
  have HBx := Lib.hid (HB5.out.trans (hb.mono HB5.out.size))
  have LKA := Lib.hid (LKA.out.below hb)
  have LKB := Lib.hid (LKB.out.below hb)
  have HZ := Lib.hid (HZ.out.trans (hb.mono HZ.out.size))
  have itC : ItemsAt lostC 3 w6 (.slice oC rl cC) RL := by
    have h9 := rwC
    rw [Hrl.out] at h9 ⊢
    exact items_of_row lostC_len h9
  have RWC := Lib.hid rwC
  have NLC := Lib.hid nlC
  have LVC := Lib.hid lvC
  have ITC := Lib.hid itC
  clear hb lvC itC rwC nlC
  go_upto_region 7 with fail
  have hl : Lk (w6.alloc (.cells #[.int .i64 (T : Int), .int .i64 (le : Int), .float .f64 scC, .float .f64 meC, .float .f64 spC, .slice oC rl cC] 27)) w6.heap.size (T : Int) (le : Int) scC meC spC (.slice oC rl cC) RL := Lk.new ITC.out
  have hb := (Below.refl w6.heap.size w6).alloc (Nat.le_refl _) (.cells #[.int .i64 (T : Int), .int .i64 (le : Int), .float .f64 scC, .float .f64 meC, .float .f64 spC, .slice oC rl cC] 27)
  obtain ⟨w7, hw⟩ : ∃ y, y = w6.alloc (.cells #[.int .i64 (T : Int), .int .i64 (le : Int), .float .f64 scC, .float .f64 meC, .float .f64 spC, .slice oC rl cC] 27) := ⟨_, rfl⟩
  rw [← hw] at hl hb ⊢
  obtain ⟨bC, hbd⟩ : ∃ y, y = w6.heap.size := ⟨_, rfl⟩
  rw [← hbd] at hl ⊢
  have LKC := Lib.hid hl
  have HB7 := Lib.hid (HBx.out.trans (hb.mono HBx.out.size))
  have HBy := HBx
  clear HBx
  skip
  have LKA := Lib.hid (LKA.out.below hb)
  have LKB := Lib.hid (LKB.out.below hb)
  have RWC := Lib.hid (row_belowC RWC.out hb)
  have HZ := Lib.hid (HZ.out.trans (hb.mono HZ.out.size))
  have BLC := Lib.hid (fun (b : Nat) (hb2 : (Value.slice oC rl cC).ownBlock = some b) => (own_lt RWC.out hb2).2)
  clear hl hb hw hbd ITC HBy
  have SZ7 := Lib.hid HZ.out.size
  have HY := Lib.hid (Below.refl w7.heap.size w7)
  go_wp2_with fail
  refine (HLL.out _ _ ((HX.out.below HZ.out (Nat.le_refl _)).deltas)).2.mono ?_
  rintro r w8 ⟨oD, cD, scD, meD, spD, rfl, lvD, rwD, nlD, hb⟩
  have HBx := Lib.hid (HB7.out.trans (hb.mono HB7.out.size))
  have LKA := Lib.hid (LKA.out.below hb)
  have LKB := Lib.hid (LKB.out.below hb)
  have LKC := Lib.hid (LKC.out.below hb)
  have HZ := Lib.hid (HZ.out.trans (hb.mono HZ.out.size))
  have RWC := Lib.hid (row_belowC RWC.out hb)
  have HY := Lib.hid (HY.out.trans (hb.mono HY.out.size))
  have itD : ItemsAt lostC 3 w8 (.slice oD rl cD) RL := by
    have h9 := rwD
    rw [Hrl.out] at h9 ⊢
    exact items_of_row lostC_len h9
  have RWD := Lib.hid rwD
  have NLD := Lib.hid nlD
  have LVD := Lib.hid lvD
  have ITD := Lib.hid itD
  clear hb lvD itD rwD nlD
  go_upto_region 8 with fail
  have hl : Lk (w8.alloc (.cells #[.int .i64 (T : Int), .int .i64 (le : Int), .float .f64 scD, .float .f64 meD, .float .f64 spD, .slice oD rl cD] 27)) w8.heap.size (T : Int) (le : Int) scD meD spD (.slice oD rl cD) RL := Lk.new ITD.out
  have hb := (Below.refl w8.heap.size w8).alloc (Nat.le_refl _) (.cells #[.int .i64 (T : Int), .int .i64 (le : Int), .float .f64 scD, .float .f64 meD, .float .f64 spD, .slice oD rl cD] 27)
  obtain ⟨w9, hw⟩ : ∃ y, y = w8.alloc (.cells #[.int .i64 (T : Int), .int .i64 (le : Int), .float .f64 scD, .float .f64 meD, .float .f64 spD, .slice oD rl cD] 27) := ⟨_, rfl⟩
  rw [← hw] at hl hb ⊢
  obtain ⟨bD, hbd⟩ : ∃ y, y = w8.heap.size := ⟨_, rfl⟩
  rw [← hbd] at hl ⊢
  have LKD := Lib.hid hl
  have HB9 := Lib.hid (HBx.out.trans (hb.mono HBx.out.size))
  have HBy := HBx
  clear HBx
  skip
  have LKA := Lib.hid (LKA.out.below hb)
  have LKB := Lib.hid (LKB.out.below hb)
  have LKC := Lib.hid (LKC.out.below hb)
  have RWD := Lib.hid (row_belowC RWD.out hb)
  have HZ := Lib.hid (HZ.out.trans (hb.mono HZ.out.size))
  have RWC := Lib.hid (row_belowC RWC.out hb)
  have HY := Lib.hid (HY.out.trans (hb.mono HY.out.size))
  have BLD := Lib.hid (fun (b : Nat) (hb2 : (Value.slice oD rl cD).ownBlock = some b) => (own_lt RWD.out hb2).2)
  clear hl hb hw hbd ITD HBy
  have SZ9 := Lib.hid HZ.out.size
  have SZ79 := Lib.hid HY.out.size
  go_wp2_with fail
  refine (HMM.out _ _ (H1.out.below HB9.out (Nat.le_refl _))).2.mono ?_
  rintro r w10 ⟨oE, cE, scE, meE, spE, rfl, lvE, rwE, nlE, hb⟩
  have HBx := Lib.hid (HB9.out.trans (hb.mono HB9.out.size))
  have LKA := Lib.hid (LKA.out.below hb)
  have LKB := Lib.hid (LKB.out.below hb)
  have LKC := Lib.hid (LKC.out.below hb)
  have LKD := Lib.hid (LKD.out.below hb)
  have HZ := Lib.hid (HZ.out.trans (hb.mono HZ.out.size))
  have RWC := Lib.hid (row_belowC RWC.out hb)
  have HY := Lib.hid (HY.out.trans (hb.mono HY.out.size))
  have RWD := Lib.hid (row_belowC RWD.out hb)
  have itE : ItemsAt lostC 3 w10 (.slice oE rm cE) RM := by
    have h9 := rwE
    rw [Hrm.out] at h9 ⊢
    exact items_of_row lostC_len h9
  have RWE := Lib.hid rwE
  have NLE := Lib.hid nlE
  have LVE := Lib.hid lvE
  have ITE := Lib.hid itE
  clear hb lvE itE rwE nlE
  go_upto_region 9 with fail
  have hl : Lk (w10.alloc (.cells #[.int .i64 (T' : Int), .int .i64 (le' : Int), .float .f64 scE, .float .f64 meE, .float .f64 spE, .slice oE rm cE] 27)) w10.heap.size (T' : Int) (le' : Int) scE meE spE (.slice oE rm cE) RM := Lk.new ITE.out
  have hb := (Below.refl w10.heap.size w10).alloc (Nat.le_refl _) (.cells #[.int .i64 (T' : Int), .int .i64 (le' : Int), .float .f64 scE, .float .f64 meE, .float .f64 spE, .slice oE rm cE] 27)
  obtain ⟨w11, hw⟩ : ∃ y, y = w10.alloc (.cells #[.int .i64 (T' : Int), .int .i64 (le' : Int), .float .f64 scE, .float .f64 meE, .float .f64 spE, .slice oE rm cE] 27) := ⟨_, rfl⟩
  rw [← hw] at hl hb ⊢
  obtain ⟨bE, hbd⟩ : ∃ y, y = w10.heap.size := ⟨_, rfl⟩
  rw [← hbd] at hl ⊢
  have LKE := Lib.hid hl
  have HB11 := Lib.hid (HBx.out.trans (hb.mono HBx.out.size))
  have HBy := HBx
  clear HBx
  skip
  have LKA := Lib.hid (LKA.out.below hb)
  have LKB := Lib.hid (LKB.out.below hb)
  have LKC := Lib.hid (LKC.out.below hb)
  have LKD := Lib.hid (LKD.out.below hb)
  have RWE := Lib.hid (row_belowC RWE.out hb)
  have HZ := Lib.hid (HZ.out.trans (hb.mono HZ.out.size))
  have RWC := Lib.hid (row_belowC RWC.out hb)
  have HY := Lib.hid (HY.out.trans (hb.mono HY.out.size))
  have RWD := Lib.hid (row_belowC RWD.out hb)
  have BLE := Lib.hid (fun (b : Nat) (hb2 : (Value.slice oE rm cE).ownBlock = some b) => (own_lt RWE.out hb2).2)
  clear hl hb hw hbd ITE HBy
  have Hsame := Lib.hid hsame
  have Hsame' := Lib.hid hsame'
  clear hsame hsame'
  skip
  obtain ⟨p0, p1, p2, p3, p4, p5⟩ := LKC.out.cells
  obtain ⟨q0, q1, q2, q3, q4, q5⟩ := LKA.out.cells
  have hs1 := samewaste_any (T : Int) (le : Int) scC meC spC scA meA spA oC oA cC cA RL w11 (Hsame.out _ _ _ _ _ _ LVC.out LVA.out).1 (Hsame.out _ _ _ _ _ _ LVC.out LVA.out).2.1 (Hsame.out _ _ _ _ _ _ LVC.out LVA.out).2.2 (by have := LKC.out.its; rw [← Hrl.out]; exact this) (by have := LKA.out.its; rw [← Hrl.out]; exact this) (by rw [← Hrl.out]; omega)
  rw [← Hrl.out] at hs1
  have HS1 := Lib.hid hs1
  clear hs1
  go_wp2_with fail
  refine HS1.out.mono ?_
  rintro r w12 ⟨rfl, hb⟩
  have HBx := Lib.hid (HB11.out.trans (hb.mono HB11.out.size))
  have LKA := Lib.hid (LKA.out.below hb)
  have LKB := Lib.hid (LKB.out.below hb)
  have LKC := Lib.hid (LKC.out.below hb)
  have LKD := Lib.hid (LKD.out.below hb)
  have LKE := Lib.hid (LKE.out.below hb)
  have HZ := Lib.hid (HZ.out.trans (hb.mono HZ.out.size))
  have RWC := Lib.hid (row_belowC RWC.out hb)
  have HY := Lib.hid (HY.out.trans (hb.mono HY.out.size))
  have RWD := Lib.hid (row_belowC RWD.out hb)
  have RWE := Lib.hid (row_belowC RWE.out hb)
  have HB12 := HBx
  clear hb HBx HS1 p0 p1 p2 p3 p4 p5 q0 q1 q2 q3 q4 q5
  obtain ⟨p0, p1, p2, p3, p4, p5⟩ := LKD.out.cells
  obtain ⟨q0, q1, q2, q3, q4, q5⟩ := LKA.out.cells
  have hs1 := samewaste_any (T : Int) (le : Int) scD meD spD scA meA spA oD oA cD cA RL w12 (Hsame.out _ _ _ _ _ _ LVD.out LVA.out).1 (Hsame.out _ _ _ _ _ _ LVD.out LVA.out).2.1 (Hsame.out _ _ _ _ _ _ LVD.out LVA.out).2.2 (by have := LKD.out.its; rw [← Hrl.out]; exact this) (by have := LKA.out.its; rw [← Hrl.out]; exact this) (by rw [← Hrl.out]; omega)
  rw [← Hrl.out] at hs1
  have HS1 := Lib.hid hs1
  clear hs1
  go_wp2_with fail
  refine HS1.out.mono ?_
  rintro r w13 ⟨rfl, hb⟩
  have HBx := Lib.hid (HB12.out.trans (hb.mono HB12.out.size))
  have LKA := Lib.hid (LKA.out.below hb)
  have LKB := Lib.hid (LKB.out.below hb)
  have LKC := Lib.hid (LKC.out.below hb)
  have LKD := Lib.hid (LKD.out.below hb)
  have LKE := Lib.hid (LKE.out.below hb)
  have HZ := Lib.hid (HZ.out.trans (hb.mono HZ.out.size))
  have RWC := Lib.hid (row_belowC RWC.out hb)
  have HY := Lib.hid (HY.out.trans (hb.mono HY.out.size))
  have RWD := Lib.hid (row_belowC RWD.out hb)
  have RWE := Lib.hid (row_belowC RWE.out hb)
  have HB13 := HBx
  clear hb HBx HS1 p0 p1 p2 p3 p4 p5 q0 q1 q2 q3 q4 q5
  obtain ⟨p0, p1, p2, p3, p4, p5⟩ := LKE.out.cells
  obtain ⟨q0, q1, q2, q3, q4, q5⟩ := LKB.out.cells
  have hs1 := samewaste_any (T' : Int) (le' : Int) scE meE spE scB meB spB oE oB cE cB RM w13 (Hsame'.out _ _ _ _ _ _ LVE.out LVB.out).1 (Hsame'.out _ _ _ _ _ _ LVE.out LVB.out).2.1 (Hsame'.out _ _ _ _ _ _ LVE.out LVB.out).2.2 (by have := LKE.out.its; rw [← Hrm.out]; exact this) (by have := LKB.out.its; rw [← Hrm.out]; exact this) (by rw [← Hrm.out]; omega)
  rw [← Hrm.out] at hs1
  have HS1 := Lib.hid hs1
  clear hs1
  go_wp2_with fail
  refine HS1.out.mono ?_
  rintro r w14 ⟨rfl, hb⟩
  have HBx := Lib.hid (HB13.out.trans (hb.mono HB13.out.size))
  have LKA := Lib.hid (LKA.out.below hb)
  have LKB := Lib.hid (LKB.out.below hb)
  have LKC := Lib.hid (LKC.out.below hb)
  have LKD := Lib.hid (LKD.out.below hb)
  have LKE := Lib.hid (LKE.out.below hb)
  have HZ := Lib.hid (HZ.out.trans (hb.mono HZ.out.size))
  have RWC := Lib.hid (row_belowC RWC.out hb)
  have HY := Lib.hid (HY.out.trans (hb.mono HY.out.size))
  have RWD := Lib.hid (row_belowC RWD.out hb)
  have RWE := Lib.hid (row_belowC RWE.out hb)
  have HB14 := HBx
  clear hb HBx HS1 p0 p1 p2 p3 p4 p5 q0 q1 q2 q3 q4 q5
  obtain ⟨_, _, _, _, _, p5⟩ := LKC.out.cells
  obtain ⟨_, _, _, _, _, q5⟩ := LKD.out.cells
  obtain ⟨_, _, _, _, _, r5⟩ := LKE.out.cells
  obtain ⟨we, hwe⟩ : ∃ y, y = w14.alloc (.cells #[.slice oC rl cC, .slice oD rl cD, .slice oE rm cE] 25) := ⟨_, rfl⟩
  have hde : Below w14.heap.size w14 we := by rw [hwe]; exact (Below.refl _ _).alloc (Nat.le_refl _) _
  have hZ := HZ.out.trans (hde.mono HZ.out.size)
  have nC := NLC.out
  have nD := NLD.out
  have nE := NLE.out
  have eC : ApLosts.RowE we w5.heap.size (.slice oC rl cC) rl (RL.map xeOf) := rowE_of Hrl.out (row_belowC RWC.out hde) nC (Nat.le_refl _)
  have eD : ApLosts.RowE we w5.heap.size (.slice oD rl cD) rl (RL.map xeOf) := rowE_of Hrl.out (row_belowC RWD.out hde) nD SZ7.out
  have eE : ApLosts.RowE we w5.heap.size (.slice oE rm cE) rm (RM.map xeOf) := rowE_of Hrm.out (row_belowC RWE.out hde) nE SZ9.out
  have dCD : ∀ b, (Value.slice oC rl cC).ownBlock = some b → (Value.slice oD rl cD).ownBlock ≠ some b := fun b h1 h2 => by
    have h3 := BLC.out b h1
    have h4 := (own_lt RWD.out h2).1
    omega
  have dCE : ∀ b, (Value.slice oC rl cC).ownBlock = some b → (Value.slice oE rm cE).ownBlock ≠ some b := fun b h1 h2 => by
    have h3 := BLC.out b h1
    have h4 := (own_lt RWE.out h2).1
    have h5 := SZ79.out
    omega
  have dDE : ∀ b, (Value.slice oD rl cD).ownBlock = some b → (Value.slice oE rm cE).ownBlock ≠ some b := fun b h1 h2 => by
    have h3 := BLD.out b h1
    have h4 := (own_lt RWE.out h2).1
    omega
  have happ : Calls Try.prog 12 #[.slice (some ⟨w14.heap.size, 0, none⟩) 3 3] we fun r w' => r = .returned (.bool true) ∧ Below w5.heap.size we w' := ApLosts.apart_any [(.slice oC rl cC, rl), (.slice oD rl cD, rl), (.slice oE rm cE, rm)] w14.heap.size w5.heap.size 3 we (show 3 ≤ 200 by decide) (Nat.le_refl _) (by unfold maxLen; omega) hZ.size
    (by rw [hwe]; exact World.alloc_heap_new w14 _)
    (fun j x n hj => by
      match j, hj with
      | 0, hj => injection hj with hj; injection hj with e1 e2; subst e1; subst e2; exact ⟨_, eC⟩
      | 1, hj => injection hj with hj; injection hj with e1 e2; subst e1; subst e2; exact ⟨_, eD⟩
      | 2, hj => injection hj with hj; injection hj with e1 e2; subst e1; subst e2; exact ⟨_, eE⟩)
    (fun j k x n x' n' hjk hj hk => by
      match j, k, hj, hk, hjk with
      | 0, 0, _, _, h => exact absurd rfl h
      | 1, 1, _, _, h => exact absurd rfl h
      | 2, 2, _, _, h => exact absurd rfl h
      | 0, 1, hj, hk, _ => injection hj with hj; injection hj with e1 _; injection hk with hk; injection hk with e2 _; subst e1; subst e2; exact dCD
      | 0, 2, hj, hk, _ => injection hj with hj; injection hj with e1 _; injection hk with hk; injection hk with e2 _; subst e1; subst e2; exact dCE
      | 1, 2, hj, hk, _ => injection hj with hj; injection hj with e1 _; injection hk with hk; injection hk with e2 _; subst e1; subst e2; exact dDE
      | 1, 0, hj, hk, _ => injection hj with hj; injection hj with e1 _; injection hk with hk; injection hk with e2 _; subst e1; subst e2; exact fun b h1 h2 => dCD b h2 h1
      | 2, 0, hj, hk, _ => injection hj with hj; injection hj with e1 _; injection hk with hk; injection hk with e2 _; subst e1; subst e2; exact fun b h1 h2 => dCE b h2 h1
      | 2, 1, hj, hk, _ => injection hj with hj; injection hj with e1 _; injection hk with hk; injection hk with e2 _; subst e1; subst e2; exact fun b h1 h2 => dDE b h2 h1)
    (fun j x n hj => by
      match j, hj with
      | 0, hj => injection hj with hj; injection hj with e1 e2; subst e2; omega
      | 1, hj => injection hj with hj; injection hj with e1 e2; subst e2; omega
      | 2, hj => injection hj with hj; injection hj with e1 e2; subst e2; omega)
  have hkp : ∀ W, Below w5.heap.size we W → Calls Try.prog 13 #[.slice (some ⟨gx, 0, none⟩) n0 cx, .slice o0 n0 cap0] W fun r w' => r = .returned (.bool true) ∧ Below W.heap.size W w' := fun W hW => by
    have h4 : Below w5.heap.size w5 W := hZ.trans hW
    exact Hkept.out _ _ W (HX.out.below h4 (Nat.le_refl _)) (H0.out.below (HB5.out.trans (h4.mono HB5.out.size)) (Nat.le_refl _))
  have hbf : ∀ W, Below w5.heap.size we W → Below w.heap.size w W := fun W hW => HB5.out.trans ((hZ.trans hW).mono HB5.out.size)
  rw [hwe] at happ
  have Happ := Lib.hid happ
  have Hkp := Lib.hid hkp
  have Hbf := Lib.hid hbf
  clear happ hkp hbf eC eD eE dCD dCE dDE nC nD nE hde hZ
  go_wp2_with fail
  refine Happ.out.mono ?_
  rintro r wf ⟨rfl, hbf⟩
  rw [← hwe] at hbf
  have Hf := Lib.hid hbf
  clear hbf p5 q5 r5 hwe
  go_wp2_with fail
  refine (Hkp.out _ Hf.out).mono ?_
  rintro r wg ⟨rfl, hbg⟩
  have Hg := Lib.hid ((Hbf.out _ Hf.out).trans (hbg.mono (Hbf.out _ Hf.out).size))
  clear hbg
  go_wp2_with fail
  refine (HW.out _).mono ?_
  rintro r wh ⟨rfl, hbh⟩
  have Hh := Lib.hid (Hg.out.trans (hbh.mono Hg.out.size))
  clear hbh
  go_wp2_with fail
  go_ret
  exact ⟨rfl, Hh.out⟩
end Go.Proofs.Ytebniijkhjnbdaa
