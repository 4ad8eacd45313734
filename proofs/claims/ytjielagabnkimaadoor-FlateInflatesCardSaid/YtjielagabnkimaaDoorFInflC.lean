/- flate.Inflate: the loop that copies what came earlier. -/
import Derived.Test.YtjielagabnkimaaDoorFInflB
import Derived.Test.YtjielagabnkimaaDoorFSymbol
import Derived.Deep.RegionHeld3
import Derived.Deep.AppendLies
import Derived.Deep.DrawnRows
import Derived.ArgAppend
import Derived.Deep.RegionLaw
set_option linter.unusedSimpArgs false
set_option linter.unusedVariables false
namespace Go.Proofs.YtjielagabnkimaaDoor
open Go.RowKit
attribute [local go_sem ↓] Go.wp_at_zero Go.wp_at_succ
theorem copyN_len (d : Nat) : ∀ (n : Nat) (out : List UInt8), (copyN d n out).length = out.length + n
  | 0, _ => rfl
  | n + 1, out => by rw [copyN, copyN_len d n, List.length_append, List.length_singleton]; omega
theorem copyN_succ (d : Nat) : ∀ (n : Nat) (out : List UInt8), copyN d (n + 1) out = copyN d n out ++ [(copyN d n out).getD ((copyN d n out).length - d) 0]
  | 0, out => rfl
  | n + 1, out => by rw [copyN, copyN_succ d n, copyN]
theorem bytes_cells {w : World} {base : Nat} {p : Option Addr} {n c : Nat} {l : List UInt8} (h : w.ownsRow base 5 1 (.slice p n c) l.length (l.map encB)) (hl : 0 < l.length) : n = l.length ∧ ∃ g, p = some ⟨g, 0, none⟩ ∧ base ≤ g ∧ ∀ j, j < l.length → w.cell? ⟨g, j, none⟩ = some (encB (l.getD j 0)) := by
  rcases h.2 with ⟨_, h0⟩ | ⟨g, cap, cur, h1, hb, hg, _, _, _, htk⟩
  · omega
  · injection h1 with h1 h2 _
    refine ⟨h2, g, h1, hb, fun j hj => ?_⟩
    rw [cell_of_row _ _ _ _ _ _ hg]
    have h8 := congrArg (fun x => x[j]?) htk
    simp only [Nat.mul_one, List.getElem?_take, hj, if_true, List.getElem?_map, List.getElem?_eq_getElem hj, Option.map_some] at h8
    rw [← Array.getElem?_toList, h8, List.getD_eq_getElem?_getD, List.getElem?_eq_getElem hj]
    rfl
theorem IFr.open3 {tm : Array Value} {M T K E R O A B n d : Nat} (h : IFr tm M T K E R O) (hA : tm.getD 11 undef = .pointer (some ⟨A, 0, none⟩)) (hB : tm.getD 12 undef = .pointer (some ⟨B, 0, none⟩)) (hd : tm.getD 18 undef = .int .i64 (d : Int)) (hn : tm.getD 130 undef = .int .i64 (n : Int)) (hk : tm.getD 131 undef = .int .i64 0) : ∃ x : Nat → Value, tm = #[x 0, x 1, x 2, .pointer (some ⟨M, 0, none⟩), .pointer (some ⟨T, 0, none⟩), .pointer (some ⟨K, 0, none⟩), .pointer (some ⟨E, 0, none⟩), .pointer (some ⟨R, 0, none⟩), .pointer (some ⟨O, 0, none⟩), putIV M O, x 10, .pointer (some ⟨A, 0, none⟩), .pointer (some ⟨B, 0, none⟩), x 13, x 14, x 15, x 16, x 17, .int .i64 (d : Int), x 19, x 20, x 21, x 22, x 23, x 24, x 25, x 26, x 27, x 28, x 29, x 30, x 31, x 32, x 33, x 34, x 35, x 36, x 37, x 38, x 39, x 40, x 41, x 42, x 43, x 44, x 45, x 46, x 47, x 48, x 49, x 50, x 51, x 52, x 53, x 54, x 55, x 56, x 57, x 58, x 59, x 60, x 61, x 62, x 63, x 64, x 65, x 66, x 67, x 68, x 69, x 70, x 71, x 72, x 73, x 74, x 75, x 76, x 77, x 78, x 79, x 80, x 81, x 82, x 83, x 84, x 85, x 86, x 87, x 88, x 89, x 90, x 91, x 92, x 93, x 94, x 95, x 96, x 97, x 98, x 99, x 100, x 101, x 102, x 103, x 104, x 105, x 106, x 107, x 108, x 109, x 110, x 111, x 112, x 113, x 114, x 115, x 116, x 117, x 118, x 119, x 120, x 121, x 122, x 123, x 124, x 125, x 126, x 127, x 128, x 129, .int .i64 (n : Int), .int .i64 0, x 132, x 133, x 134, x 135, x 136, x 137, x 138, x 139, x 140, x 141, x 142, x 143, x 144, x 145, x 146, x 147, x 148, x 149, x 150, x 151, x 152, x 153, x 154, x 155] := by
  obtain ⟨hz, h3, h4, h5, h6, h7, h8, h9⟩ := h
  obtain ⟨x, hx, hg⟩ := arr156 tm hz
  refine ⟨x, ?_⟩
  rw [← hg 3] at h3
  rw [← hg 4] at h4
  rw [← hg 5] at h5
  rw [← hg 6] at h6
  rw [← hg 7] at h7
  rw [← hg 8] at h8
  rw [← hg 9] at h9
  rw [← hg 11] at hA
  rw [← hg 12] at hB
  rw [← hg 18] at hd
  rw [← hg 130] at hn
  rw [← hg 131] at hk
  rw [h3, h4, h5, h6, h7, h8, h9, hA, hB, hd, hn, hk] at hx
  exact hx
/-- an append onto a row of the own, as a step of a region that draws: what stood in the row stands there still -/
theorem step_append_keep {P : Program} {w : World} {ops : Array Oper} {o : Oper} {a : Act} {K : Act → World → Prop} {Q : Exit → Act → World → Prop} {E : Prop} (hgd : o.guard = none) (s x : Operand) (t : TypeId)
    (ho : o.op = .call { callee := .builtin .append, args := #[s, x], argTypes := #[t, t] })
    (base : Nat) (e : TypeId) (i : TypeInfo) (z : Value) (size bytes : Nat) (ht : P.underlying t = some (.slice e)) (hi : P.info? e = some i) (hz : i.zero = some z)
    (hsize : i.size = size) (hby : i.bytes = bytes) (hzs : z.cells.size = size) (hsz : 0 < size)
    (g n cap : Nat) (xs : List Value) (hs : a.eval s = .slice (some ⟨g, 0, none⟩) n cap) (hown : w.ownsRow base e size (.slice (some ⟨g, 0, none⟩) n cap) n xs)
    (ad : Addr) (m c : Nat) (news : List Value) (hx : a.eval x = .slice (some ad) m c) (hl : news.length = m * size) (hnews : ∀ j u, news[j]? = some u → w.cell? (ad.add j) = some u) (h1 : ∀ u ∈ news, u.oneCell' = true)
    (h63 : n + m ≤ maxLen) (hbytes : (n + m) * bytes ≤ 140737488355328) (hbase : base ≤ w.heap.size)
    (h : ∀ v' w', w'.ownsRow base e size v' (n + m) (xs ++ news) → w.grownBy w' (some g) → (∀ j u, xs[j]? = some u → w'.cell? ((⟨g, 0, none⟩ : Addr).add j) = some u) → (∃ p q r, v' = .slice p q r) → K (a.put o.dst v') w') :
    if Region.wanted o (yielded ops a.tmps) = true then Oper.wp P o a w K Q else E := by
  have hw : Region.wanted o (yielded ops a.tmps) = true := by simp [Region.wanted, hgd]
  rw [if_pos hw]
  have holds : ∀ j u, xs[j]? = some u → w.cell? ((⟨g, 0, none⟩ : Addr).add j) = some u := hown.cells (g := g) rfl
  obtain ⟨v', w', hrun, r1, r2, _, _⟩ := run_append_own_at (P := P) (w := w) base t o.type e i z size bytes ht hi hz hsize hby hzs hsz _ n xs hown ad m c news hl hnews h1 h63 hbytes hbase
  have hcells : ∀ j u, xs[j]? = some u → w'.cell? ((⟨g, 0, none⟩ : Addr).add j) = some u := by
    by_cases hroom : n + m ≤ cap
    · rcases hown.2 with ⟨h2, _⟩ | ⟨g', cap', cur, h2, _, hg, hnc, hcm, hcs, htk⟩
      · cases h2
      · injection h2 with h3 _ h4
        injection h3 with h3
        injection h3 with h3
        subst h3 h4
        have hfit : n * i.size + news.length ≤ cur.size := by rw [hl, hcs, ← hsize, ← Nat.add_mul]; exact Nat.mul_le_mul_right _ hroom
        have hr := run_append_room (P := P) w t o.type e i ht hi g n cap cur hg ad m c news (by rw [hsize]; exact hl) hnews h1 hroom hfit
        rw [hr] at hrun
        injection hrun with e1 e2
        subst e1
        intro j u hj
        exact r1.cells (g := g) rfl j u (by rw [List.getElem?_append_left (List.getElem?_eq_some_iff.1 hj).1]; exact hj)
    · obtain ⟨v2, w2, hrun2, _, r4⟩ := run_append_arg_grows (P := P) w t o.type e i z size bytes ht hi hz hsize hby hzs hsz ⟨g, 0, none⟩ n cap xs hown.1 holds ad m c news hl hnews (by omega) h63 hbytes
      rw [hrun2] at hrun
      injection hrun with e1 e2
      subst e2
      intro j u hj
      have hc := holds j u hj
      have hlt := World.block_lt_of_cell? w _ hc
      rw [← hc]
      exact World.cell?_of_block (r4.block _ hlt (by simp))
  unfold Oper.wp
  simp [execOp, ho, resolve, invoke, builtin, hs, hx, hrun, Result.andThen]
  exact h v' w' r1 r2 hcells (ownsRow_slice r1)
noncomputable def blk7 : Code := ((Tryd.f16.body.bind (findBlock 7)).getD .skip)

set_option maxRecDepth 100000 in
set_option maxHeartbeats 4000000 in
theorem blk7_any (tm : Array Value) (D : List Deferred) (M T K E R O A B n d base : Nat) (out : List UInt8) (w : World) (Q : Exit → Act → World → Prop) (hF : IFr tm M T K E R O) (hA : tm.getD 11 undef = .pointer (some ⟨A, 0, none⟩)) (hB : tm.getD 12 undef = .pointer (some ⟨B, 0, none⟩)) (hd : tm.getD 18 undef = .int .i64 (d : Int)) (hn : tm.getD 130 undef = .int .i64 (n : Int)) (hk0 : tm.getD 131 undef = .int .i64 0)
    (hO : OutAt w O base out) (hb : O < base) (hd1 : 1 ≤ d) (hd2 : d ≤ out.length) (hl : out.length + n < 2 ^ 40)
    (hQ : ∀ tm' w', IFr tm' M T K E R O → tm'.getD 10 undef = tm.getD 10 undef → tm'.getD 11 undef = .pointer (some ⟨A, 0, none⟩) → tm'.getD 12 undef = .pointer (some ⟨B, 0, none⟩) → OutAt w' O base (copyN d n out) → Keeps (okOut O base) w w' → Q .normal ⟨tm', D⟩ w') :
    Code.wp Tryd.prog blk7 Q ⟨tm, D⟩ w := by
  obtain ⟨i0, hi, hz0, hz1, hz2⟩ := info_parts Tryd.info_byte
  have Hi := Lib.hid hi
  have Hz0 := Lib.hid hz0
  have Hz1 := Lib.hid hz1
  have Hz2 := Lib.hid hz2
  clear hi hz0 hz1 hz2
  obtain ⟨x, rfl⟩ := hF.open3 hA hB hd hn hk0
  have HQ := Lib.hid hQ
  have HO := Lib.hid hO
  clear hQ hF hA hB hd hn hk0 hO
  conv => arg 2; whnf
  go_wp2_with fail
  go_loopw [131] (fun kv wr => ∃ k : Nat, kv = .int .i64 (k : Int) ∧ k ≤ n ∧ OutAt wr O base (copyN d k out) ∧ Keeps (okOut O base) w wr) (fun kv _ => n - (intOf kv).toNat)
  case atStart => exact ⟨0, rfl, Nat.zero_le _, HO.out, Keeps.refl _ _⟩
  case round =>
    obtain ⟨k, rfl, hk, hO2, hK⟩ := hrel
    by_cases hlt : (k : Int) < (n : Int)
    · obtain ⟨ov, hov, hrow⟩ := hO2
      obtain ⟨o, ho⟩ : ∃ o, o = copyN d k out := ⟨_, rfl⟩
      have hol : o.length = out.length + k := by rw [ho, copyN_len]
      rw [← ho] at hrow
      obtain ⟨p, q, c, rfl⟩ := ownsRow_slice hrow
      obtain ⟨hq, g, rfl, hg, hcells⟩ := bytes_cells hrow (by omega)
      subst hq
      obtain ⟨j, hj⟩ : ∃ j, j = o.length - d := ⟨_, rfl⟩
      have hjlt : j < o.length := by omega
      obtain ⟨b, hbb⟩ : ∃ b, b = o.getD j 0 := ⟨_, rfl⟩
      have c1 := hov.cell
      have f1 := hov.frozen
      have c2 := hcells j hjlt
      rw [← hbb] at c2
      unfold encB at c2
      have ejz : (o.length : Int) - (d : Int) = (j : Int) := by omega
      have ej0 : (0 : Int) ≤ (j : Int) := by omega
      have ej1 : (j : Int) < (o.length : Int) := by omega
      have ejw : IntKind.i64.wrap ((o.length : Int) - (d : Int)) = (j : Int) := by rw [ejz]; exact IntWalk.i64_in _ (by omega)
      have ejw2 : IntKind.i64.wrap (j : Int) = (j : Int) := IntWalk.i64_in _ (by omega)
      have l1 := hov.lt
      have hOg : O ≠ g := by omega
      have lg : g < wr.heap.size := World.block_lt_of_cell? wr _ c2
      have hbs : base ≤ wr.heap.size := by omega
      have holt : o.length < 1099511627776 := by omega
      have hol1 : 1 ≤ o.length := by omega
      have Hol := Lib.hid hol
      have hkj : ∀ W : World, (∀ j u, (o.map encB)[j]? = some u → W.cell? ((⟨g, 0, none⟩ : Addr).add j) = some u) → W.cell? ⟨g, j, none⟩ = some (.int .u8 (b.toNat : Int)) := by
        intro W hW
        have h := hW j (encB b) (by rw [List.getElem?_map, List.getElem?_eq_getElem hjlt, hbb, List.getD_eq_getElem?_getD, List.getElem?_eq_getElem hjlt]; rfl)
        have hadd : (⟨g, 0, none⟩ : Addr).add j = ⟨g, j, none⟩ := by unfold Addr.add; split <;> simp_all
        rw [hadd] at h; exact h
      have Hkj := Lib.hid hkj
      clear hkj
      have Hov := Lib.hid hov
      have Hrow := Lib.hid hrow
      have Ho := Lib.hid ho
      have Hj := Lib.hid hj
      have Hbb := Lib.hid hbb
      have HK := Lib.hid hK
      clear hov hrow ho hj hbb hK hcells hol
      go_wp2_with fail
      refine wp_region_noPanic ?_
      go_region_law
        ((refine step_append_keep (by rfl) _ _ _ (by rfl) base 5 i0 (.int .u8 0) 1 1 Tryd.underlying39 Hi.out Hz0.out Hz1.out Hz2.out rfl (by decide) g o.length c _ (by rfl) ((Hrow.out.alloc _).drew) ⟨wr.heap.size, 0, none⟩ 1 1 [.int .u8 (b.toNat : Int)] (by rfl) (by rfl) (World.news_of_block (cs := #[.int .u8 (b.toNat : Int)]) (t := 5) (fr := (0, 0)) (heap_alloc_new wr _)) (by simp [Value.oneCell']) (by unfold maxLen; omega) (by omega) (by simp; omega) ?_
          rintro v' w1 hown1 hgrow hcl ⟨pv, qv, rv, rfl⟩
          have hq := OutAt.push (b := b) Hov.out Hrow.out hown1 ⟨hgrow.os, hgrow.tape, hgrow.output, hgrow.size, hgrow.block⟩
          have g5 := hq.1.cell
          have g6 := hq.1.frozen
          have g7 := Hkj.out _ hcl
          have Hq := Lib.hid hq
          clear hq hown1))
      all_goals
        unfold NoPanic
        go_wp2_with fail
        go_roundw
        case rel =>
          refine ⟨k + 1, by go_num, by omega, ?_, HK.out.trans Hq.out.2.2⟩
          rw [copyN_succ, ← Ho.out, ← Hj.out, ← Hbb.out]
          exact Hq.out.2.1
        case measure => simp [intOf]; omega
    · obtain rfl : k = n := by omega
      go_wp2_with fail
      exact HQ.out _ _ ⟨rfl, rfl, rfl, rfl, rfl, rfl, rfl, rfl⟩ rfl rfl rfl hO2 hK
end Go.Proofs.YtjielagabnkimaaDoor
