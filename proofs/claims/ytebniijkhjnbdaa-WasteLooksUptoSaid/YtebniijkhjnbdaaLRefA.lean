/- The reference's small parts: brings, ahead, changes. -/
import Derived.Test.YtebniijkhjnbdaaRefb
import Derived.Test.YtebniijkhjnbdaaLLent
set_option linter.unusedSimpArgs false
set_option linter.unusedVariables false
namespace Go.Proofs.Ytebniijkhjnbdaa
open Go.RowKit Go.Maps
open Go.Lib hiding intOf size_eq
set_option maxRecDepth 100000 in
set_option maxHeartbeats 1000000 in
theorem rbrings_any (c : Chg) (w : World) :
    Calls Try.prog 20 #[.agg #[.string c.p, .bool c.g, .string c.ep, .int .i64 c.k, .int .i64 c.m, .string c.d, .string c.l]] w fun r w' => r = .returned (.int .i64 (bringsF (cwOf c) : Int)) ∧ Below w.heap.size w w' := by
  cases hg : c.g
  · have e : (bringsF (cwOf c) : Int) = (c.d.size : Int) := by
      unfold bringsF cwOf
      rw [hg]
      rfl
    rw [e]
    have hb := (Below.refl w.heap.size w).alloc (Nat.le_refl _) (.cells #[.string c.p, .bool false, .string c.ep, .int .i64 c.k, .int .i64 c.m, .string c.d, .string c.l] 43)
    have Hb := Lib.hid hb
    clear hb e
    go_enter Try.func20, Try.ntmps20
    go_wp2_with fail
    go_ret
    exact ⟨rfl, Hb.out⟩
  · have e : (bringsF (cwOf c) : Int) = 0 := by
      unfold bringsF cwOf
      rw [hg]
      rfl
    rw [e]
    have hb := (Below.refl w.heap.size w).alloc (Nat.le_refl _) (.cells #[.string c.p, .bool true, .string c.ep, .int .i64 c.k, .int .i64 c.m, .string c.d, .string c.l] 43)
    have Hb := Lib.hid hb
    clear hb e
    go_enter Try.func20, Try.ntmps20
    go_wp2_with fail
    go_ret
    exact ⟨rfl, Hb.out⟩
set_option maxRecDepth 100000 in
set_option maxHeartbeats 1000000 in
theorem rahead_any (a b : LostB) (w : World) (ha : a.p.size ≤ 1099511627776) (hb : b.p.size ≤ 1099511627776) :
    Calls Try.prog 23 #[.agg #[.string a.p, .int .i64 (a.t : Int), .int .i64 (a.b : Int)], .agg #[.string b.p, .int .i64 (b.t : Int), .int .i64 (b.b : Int)]] w fun r w' => r = .returned (.bool (aheadB a.n b.n)) ∧ Below w.heap.size w w' := by
  have hc := fun W => rcompare_any a.p b.p W ha hb
  have Hc := Lib.hid hc
  have fin : ∀ (x : Nat) W, Below ((w.alloc (.cells #[.string a.p, .int .i64 (a.t : Int), .int .i64 (x : Int)] 36)).alloc (.cells #[.string b.p, .int .i64 (b.t : Int), .int .i64 (b.b : Int)] 36)).heap.size ((w.alloc (.cells #[.string a.p, .int .i64 (a.t : Int), .int .i64 (x : Int)] 36)).alloc (.cells #[.string b.p, .int .i64 (b.t : Int), .int .i64 (b.b : Int)] 36)) W → Below w.heap.size w W := fun x W hW =>
    (((Below.refl _ _).alloc (Nat.le_refl _) _).alloc (by simp) _).trans (hW.mono (by simp; omega))
  have Fin := Lib.hid fin
  have H0 := Lib.hid (fin a.b _ (Below.refl _ _))
  clear hc fin
  by_cases h : a.b = b.b
  · have e : aheadB a.n b.n = decide (compareP a.p.data.toList b.p.data.toList < 0) := by
      unfold aheadB
      rw [if_pos (show a.n.b = b.n.b from h)]
      rfl
    rw [e]
    have hi : (a.b : Int) = (b.b : Int) := by omega
    clear e h
    obtain ⟨z, hz⟩ : ∃ z, z = compareP a.p.data.toList b.p.data.toList := ⟨_, rfl⟩
    rw [← hz] at Hc ⊢
    clear hz
    go_enter Try.func23, Try.ntmps23
    go_wp2_with fail
    refine (Hc.out _).mono ?_
    rintro r w1 ⟨rfl, hb⟩
    have HB := Lib.hid (Fin.out _ _ hb)
    clear hb
    go_wp2_with fail
    go_ret
    exact ⟨rfl, HB.out⟩
  · have e : aheadB a.n b.n = decide (b.b < a.b) := by
      unfold aheadB
      rw [if_neg (show ¬ a.n.b = b.n.b from h)]
      rfl
    rw [e]
    have hi : ¬ (a.b : Int) = (b.b : Int) := by omega
    clear e h
    by_cases hz : b.b < a.b
    · have hzi : (b.b : Int) < (a.b : Int) := by omega
      rw [decide_eq_true hz]
      go_enter Try.func23, Try.ntmps23
      go_wp2_with fail
      go_ret
      exact ⟨rfl, H0.out⟩
    · have hzi : ¬ (b.b : Int) < (a.b : Int) := by omega
      rw [decide_eq_false hz]
      go_enter Try.func23, Try.ntmps23
      go_wp2_with fail
      go_ret
      exact ⟨rfl, H0.out⟩
theorem flat_stepR {LL : List (List Chg)} {q : Nat} {L : List Chg} (h : LL[q]? = some L) : (LL.take (q + 1)).flatten = (LL.take q).flatten ++ L := by
  rw [← gtake h, List.flatten_append]
  simp
theorem flat_boundR {LL : List (List Chg)} {q k : Nat} {L : List Chg} {c : Chg} (h : LL[q]? = some L) (hc : L[k]? = some c) : ((LL.take q).flatten ++ L.take k).length < (flatC LL).length := by
  obtain ⟨R, hR⟩ := flatC_split h
  have hk := (List.getElem?_eq_some_iff.1 hc).1
  rw [hR]
  unfold flatC
  simp only [List.length_append, List.length_map, List.length_take]
  omega
set_option maxRecDepth 100000 in
set_option maxHeartbeats 4000000 in
theorem rchanges_any (v : Value) (LL : List (List Chg)) (w : World) (h : DeltasAt w v LL) (hn : LL.length ≤ 1048576) (hm : (flatC LL).length ≤ 1048576) :
    Calls Try.prog 19 #[v] w fun r w' => ∃ v', r = .returned v' ∧ w'.ownsRow w.heap.size 43 7 v' LL.flatten.length (LL.flatten.flatMap chgC) ∧ Below w.heap.size w w' := by
  obtain ⟨i0, hi, hz0, hz1, hz2⟩ := info_parts Try.infoChg7
  have Hi := Lib.hid hi
  have Hz0 := Lib.hid hz0
  have Hz1 := Lib.hid hz1
  have Hz2 := Lib.hid hz2
  clear hi hz0 hz1 hz2
  obtain ⟨o, cap, rfl, hlc, hcm⟩ := h.len
  obtain ⟨n, hnn⟩ : ∃ n, n = LL.length := ⟨_, rfl⟩
  rw [← hnn] at hlc hn ⊢
  have Hd := Lib.hid h
  have Hnn := Lib.hid hnn
  have Hm := Lib.hid hm
  clear h hnn hm
  go_enter Try.func19, Try.ntmps19
  go_wp2_with fail
  go_loopw [3, 4, 5] (fun ov iv xv wr => ∃ (q : Nat) (x1 : Value), xv = x1 ∧ iv = .int .i64 (q : Int) ∧ q ≤ n ∧ Hid (wr.ownsRow w.heap.size 43 7 ov (LL.take q).flatten.length ((LL.take q).flatten.flatMap chgC) ∧ Below w.heap.size w wr)) (fun _ iv _ _ => n - (intOf iv).toNat)
  case atStart => exact ⟨0, _, rfl, rfl, Nat.zero_le _, Lib.hid ⟨World.ownsRow_nil _ _ _ _, Below.refl _ _⟩⟩
  case round =>
    obtain ⟨q, x1, rfl, rfl, hq, HI⟩ := hrel
    by_cases hlt : q < n
    · obtain ⟨L, hL⟩ : ∃ L, LL[q]? = some L := ⟨_, List.getElem?_eq_getElem (by rw [← Hnn.out]; exact hlt)⟩
      obtain ⟨a, o2, c2, rfl, hab, hac0, hlc2, hcm2, hIt⟩ := Hd.out.get hL
      obtain ⟨m, hmm2⟩ : ∃ m, m = L.length := ⟨_, rfl⟩
      have hm1 : m ≤ 1048576 := by
        obtain ⟨R, hR⟩ := flatC_split hL
        have := Hm.out
        rw [hR] at this
        simp at this
        omega
      rw [← hmm2] at hac0 hlc2
      have hac := (HI.out.2.cell (p := a.add q) (by rw [gadd_block]; exact hab)).trans hac0
      have up : ∀ W, Below w.heap.size w W → W.cell? (a.add q) = some (.slice o2 m c2) := fun W hW => (hW.cell (p := a.add q) (by rw [gadd_block]; exact hab)).trans hac0
      have Hup := Lib.hid up
      have HIt := Lib.hid hIt
      have Hmm := Lib.hid hmm2
      have HL := Lib.hid hL
      clear hIt hmm2 hL hac0 up
      go_wp2_with fail
      go_loopw [3, 5] (fun ov kv wr => ∃ k : Nat, kv = .int .i64 (k : Int) ∧ k ≤ m ∧ Hid (wr.ownsRow w.heap.size 43 7 ov ((LL.take q).flatten ++ L.take k).length (((LL.take q).flatten ++ L.take k).flatMap chgC) ∧ Below w.heap.size w wr)) (fun _ kv _ => m - (intOf kv).toNat)
      case atStart => exact ⟨0, rfl, Nat.zero_le _, Lib.hid (by simpa using HI.out)⟩
      case round =>
        obtain ⟨k, rfl, hk, HK⟩ := hrel
        by_cases hkm : k < m
        · obtain ⟨c, hc⟩ : ∃ c, L[k]? = some c := ⟨_, List.getElem?_eq_getElem (by rw [← Hmm.out]; exact hkm)⟩
          obtain ⟨a4, rfl, ha4, hcs⟩ := HIt.out.get hc
          have hDl := flat_boundR HL.out hc
          have hDm := Hm.out
          have hstp : (LL.take q).flatten ++ L.take k ++ [c] = (LL.take q).flatten ++ L.take (k + 1) := by rw [List.append_assoc, gtake hc]
          obtain ⟨D, hD⟩ : ∃ D, D = (LL.take q).flatten ++ L.take k := ⟨_, rfl⟩
          rw [← hD] at HK hDl hstp
          have hcy : ∀ j x, ([.string c.p, .bool c.g, .string c.ep, .int .i64 c.k, .int .i64 c.m, .string c.d, .string c.l] : List Value)[j]? = some x → wr.cell? ((a4.add (k * 7)).add j) = some x := fun j x hj =>
            (HK.out.2.cell (p := (a4.add (k * 7)).add j) (by rw [gadd_block, gadd_block]; exact ha4)).trans (hcs j x hj)
          have hac := Hup.out _ HK.out.2
          have hBy := HK.out.2.size
          have Hcy := Lib.hid hcy
          have Hstp := Lib.hid hstp
          have Hnew := Lib.hid (item_cells (cs := chgC c) (World.alloc_heap_new wr (.cells (chgC c).toArray 43)))
          have Hrow := Lib.hid (HK.out.1.alloc (.cells (chgC c).toArray 43))
          clear hcs hc hD hcy hstp
          go_wp2_with (first
            | (refine wpList_load_items rfl _ _ rfl (a4.add (k * 7)) rfl [.string c.p, .bool c.g, .string c.ep, .int .i64 c.k, .int .i64 c.m, .string c.d, .string c.l] _ Hcy.out Try.underlying43 rfl (by kernel_rfl) ?_)
            | (at_builtin; refine wpList_append_own _ rfl _ _ 38 rfl w.heap.size 43 i0 _ 7 88 Try.underlying38 Hi.out Hz0.out Hz1.out Hz2.out rfl (by decide) _ _ _ rfl Hrow.out ⟨wr.heap.size, 0, none⟩ 1 1 [.string c.p, .bool c.g, .string c.ep, .int .i64 c.k, .int .i64 c.m, .string c.d, .string c.l] rfl rfl Hnew.out (by simp [Value.oneCell']) (by unfold maxLen; omega) (by omega) (by simp; omega) ?_
               intro v1 w1 hown1 hgrow1 _
               have HN := Lib.hid (show w1.ownsRow w.heap.size 43 7 v1 (D ++ [c]).length ((D ++ [c]).flatMap chgC) ∧ Below w.heap.size w w1 from ⟨by rw [List.length_append, List.length_singleton, List.flatMap_append, List.flatMap_singleton]; exact hown1, (HK.out.2.alloc hBy _).grown hgrow1 (by simp; omega) (fun i e => (World.ownsRow.lt HK.out.1 i e).1)⟩)
               clear hown1 hgrow1))
          go_roundw
          case rel => exact ⟨k + 1, by go_num, by omega, by rw [← Hstp.out]; exact HN⟩
          case measure => simp [intOf]; omega
        · obtain rfl : k = m := by omega
          have hLk : L.take k = L := by rw [Hmm.out, List.take_length]
          have hac := Hup.out _ HK.out.2
          rw [hLk, ← flat_stepR HL.out] at HK
          clear hLk
          go_wp2_with fail
          go_roundw
          case rel => exact ⟨q + 1, _, rfl, by go_num, by omega, HK⟩
          case measure => simp [intOf]; omega
    · obtain rfl : q = n := by omega
      have hall : LL.take q = LL := by rw [Hnn.out, List.take_length]
      rw [hall] at HI
      clear hall
      go_wp2_with fail
      go_ret
      exact ⟨_, rfl, HI.out.1, HI.out.2⟩
end Go.Proofs.Ytebniijkhjnbdaa
