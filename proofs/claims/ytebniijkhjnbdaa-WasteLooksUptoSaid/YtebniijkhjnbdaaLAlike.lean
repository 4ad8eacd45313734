/- crowded, SameLosts, alike. -/
import Derived.Test.YtebniijkhjnbdaaLLook
import Derived.Test.YtebniijkhjnbdaaLMake
set_option linter.unusedSimpArgs false
set_option linter.unusedVariables false
namespace Go.Proofs.Ytebniijkhjnbdaa
open Go.RowKit Go.Maps
open Go.Lib hiding intOf size_eq
def crowdN (LL : List (List Chg)) : Nat := (LL.map fun L => L.length + 1).sum
theorem crowdN_step {LL : List (List Chg)} {i : Nat} {L : List Chg} (h : LL[i]? = some L) : crowdN (LL.take (i + 1)) = crowdN (LL.take i) + (L.length + 1) := by
  unfold crowdN
  rw [← gtake h, List.map_append, List.sum_append]
  simp
set_option maxRecDepth 100000 in
set_option maxHeartbeats 1000000 in
theorem crowded_any (v : Value) (LL : List (List Chg)) (w : World) (h : DeltasAt w v LL) (hn : LL.length ≤ 1048576) (hm : (flatC LL).length ≤ 1048576) :
    Calls Try.prog 7 #[v] w fun r w' => ∃ b : Bool, r = .returned (.bool b) ∧ (b = false → crowdN LL ≤ 5000) ∧ w = w' := by
  obtain ⟨o, cap, rfl, hlc, hcm⟩ := h.len
  obtain ⟨n, hnn⟩ : ∃ n, n = LL.length := ⟨_, rfl⟩
  rw [← hnn] at hlc hn ⊢
  have Hd := Lib.hid h
  have Hnn := Lib.hid hnn
  have Hm := Lib.hid hm
  clear h hnn hm
  go_enter Try.func7, Try.ntmps7
  go_wp2_with fail
  go_loopw [3, 4] (fun nv iv wr => ∃ i c : Nat, nv = .int .i64 (c : Int) ∧ iv = .int .i64 (i : Int) ∧ i ≤ n ∧ c ≤ 5000 ∧ Hid (c = crowdN (LL.take i)) ∧ w = wr) (fun _ iv _ => n - (intOf iv).toNat)
  case atStart => exact ⟨0, 0, rfl, rfl, Nat.zero_le _, Nat.zero_le _, Lib.hid rfl, rfl⟩
  case round =>
    obtain ⟨i, c, rfl, rfl, hin, hc5, Hc, rfl⟩ := hrel
    by_cases hlt : i < n
    · obtain ⟨L, hL⟩ : ∃ L, LL[i]? = some L := ⟨_, List.getElem?_eq_getElem (by rw [← Hnn.out]; exact hlt)⟩
      obtain ⟨a, o2, c2, rfl, hab, hac, hlc2, hcm2, hIt⟩ := Hd.out.get hL
      obtain ⟨m, hmm2⟩ : ∃ m, m = L.length := ⟨_, rfl⟩
      have hm1 : m ≤ 1048576 := by
        obtain ⟨R, hR⟩ := flatC_split hL
        have := Hm.out
        rw [hR] at this
        simp at this
        omega
      rw [← hmm2] at hac hlc2
      have Hst := Lib.hid (crowdN_step hL)
      rw [← hmm2, ← Hc.out] at Hst
      clear hIt hmm2 hL
      by_cases hbig : 5000 < c + m + 1
      · have hbi : (5000 : Int) < (c : Int) + (m : Int) + 1 := by omega
        go_wp2_with fail
        go_ret
        exact ⟨true, rfl, fun e => (by cases e), rfl⟩
      · have hbi : ¬ (5000 : Int) < (c : Int) + (m : Int) + 1 := by omega
        go_wp2_with fail
        go_roundw
        case rel => exact ⟨i + 1, c + m + 1, by go_num, by go_num, by omega, by omega, Lib.hid (by rw [Hst.out]; omega), by trivial⟩
        case measure => simp [intOf]; omega
    · obtain rfl : i = n := by omega
      have e : LL.take i = LL := by rw [Hnn.out, List.take_length]
      have Hc2 := Hc
      rw [e] at Hc2
      clear e
      go_wp2_with fail
      go_ret
      exact ⟨false, rfl, fun _ => by rw [← Hc2.out]; exact hc5, rfl⟩
set_option maxRecDepth 100000 in
set_option maxHeartbeats 1000000 in
theorem samelosts_any (va vb : Value) (R : List LostB) (w : World) (ha : ItemsAt lostC 3 w va R) (hb : ItemsAt lostC 3 w vb R) (hl : R.length ≤ 1048576) :
    Calls Try.prog 31 #[va, vb] w fun r w' => r = .returned (.bool true) ∧ Below w.heap.size w w' := by
  obtain ⟨o, cap, rfl, hlc, hcm⟩ := ha.len
  obtain ⟨o2, cap2, rfl, hlc2, hcm2⟩ := hb.len
  obtain ⟨n, hnn⟩ : ∃ n, n = R.length := ⟨_, rfl⟩
  rw [← hnn] at hlc hlc2 hl ⊢
  have Ha := Lib.hid ha
  have Hb := Lib.hid hb
  rw [← hnn] at Ha Hb
  have Hnn := Lib.hid hnn
  clear ha hb hnn
  go_enter Try.func31, Try.ntmps31
  go_wp2_with fail
  go_loopw [5] (fun iv wr => ∃ i : Nat, iv = .int .i64 (i : Int) ∧ i ≤ n ∧ Below w.heap.size w wr) (fun iv _ => n - (intOf iv).toNat)
  case atStart => exact ⟨0, rfl, Nat.zero_le _, Below.refl _ _⟩
  case round =>
    obtain ⟨i, rfl, hin, hbr⟩ := hrel
    have HBr := Lib.hid hbr
    clear hbr
    by_cases hlt : i < n
    · obtain ⟨x, hx⟩ : ∃ x, R[i]? = some x := ⟨_, List.getElem?_eq_getElem (by rw [← Hnn.out]; exact hlt)⟩
      have Ha2 := Ha.out
      have Hb2 := Hb.out
      rw [Hnn.out] at Ha2 Hb2
      obtain ⟨a, rfl, hab, hac⟩ := (Ha2.below HBr.out (Nat.le_refl _)).get hx
      obtain ⟨a2, rfl, hab2, hac2⟩ := (Hb2.below HBr.out (Nat.le_refl _)).get hx
      have HA := Lib.hid hac
      have HB := Lib.hid hac2
      clear hac hac2 Ha2 Hb2 hx
      go_wp2_with fail
      refine gregion_named (by kernel_rfl) (by kernel_rfl) ?_
      intro wz hz
      have hcA : ∀ j v, (lostC x)[j]? = some v → wz.cell? ((a.add (i * 3)).add j) = some v := by rw [hz]; exact HA.out
      have hcB : ∀ j v, (lostC x)[j]? = some v → wz.cell? ((a2.add (i * 3)).add j) = some v := by rw [hz]; exact HB.out
      have hbz : Below w.heap.size w wz := by rw [hz]; exact below_drew HBr.out
      have HcA := Lib.hid hcA
      have HcB := Lib.hid hcB
      have HBz := Lib.hid hbz
      clear hz hcA hcB hbz
      iterate 3 still_step
      refine still_load_items rfl _ _ rfl (a.add (i * 3)) rfl [.string x.p, .int .i64 (x.t : Int), .int .i64 (x.b : Int)] _ HcA.out Try.underlying36 rfl (by kernel_rfl) ?_
      iterate 3 still_step
      refine still_load_items rfl _ _ rfl (a2.add (i * 3)) rfl [.string x.p, .int .i64 (x.t : Int), .int .i64 (x.b : Int)] _ HcB.out Try.underlying36 rfl (by kernel_rfl) ?_
      still_step
      refine wpStill_nil ?_
      go_wp2_with fail
      go_roundw
      case rel => exact ⟨i + 1, by go_num, by omega, HBz.out⟩
      case measure => simp [intOf]; omega
    · obtain rfl : i = n := by omega
      go_wp2_with fail
      go_ret
      exact ⟨rfl, HBr.out⟩
set_option maxRecDepth 100000 in
set_option maxHeartbeats 1000000 in
theorem alike_any (T le : Int) (sc me sp me2 sp2 : Nat) (oa ob : Option Addr) (ca cb : Nat) (R : List LostB) (w : World) (ho : Fl.F.order sc sc = some .eq) (ha : ItemsAt lostC 3 w (.slice oa R.length ca) R) (hb : ItemsAt lostC 3 w (.slice ob R.length cb) R) (hl : R.length ≤ 1048576) :
    Calls Try.prog 16 #[.agg #[.int .i64 T, .int .i64 le, .float .f64 sc, .float .f64 me, .float .f64 sp, .slice oa R.length ca], .agg #[.int .i64 T, .int .i64 le, .float .f64 sc, .float .f64 me2, .float .f64 sp2, .slice ob R.length cb]] w fun r w' => r = .returned (.bool true) ∧ Below w.heap.size w w' := by
  have hs : ∀ W, Below w.heap.size w W → Calls Try.prog 31 #[.slice oa R.length ca, .slice ob R.length cb] W fun r w' => r = .returned (.bool true) ∧ Below w.heap.size w w' := fun W hW =>
    (samelosts_any _ _ R W (ha.below hW (Nat.le_refl _)) (hb.below hW (Nat.le_refl _)) hl).mono fun r w' ⟨h1, h2⟩ => ⟨h1, hW.trans (h2.mono hW.size)⟩
  obtain ⟨n, hn⟩ : ∃ n, n = R.length := ⟨_, rfl⟩
  rw [← hn] at hs ⊢
  have Hs := Lib.hid hs
  have Hbl := Lib.hid (((Below.refl w.heap.size w).alloc (Nat.le_refl _) (.cells #[.int .i64 T, .int .i64 le, .float .f64 sc, .float .f64 me, .float .f64 sp, .slice oa n ca] 27)).alloc (by simp) (.cells #[.int .i64 T, .int .i64 le, .float .f64 sc, .float .f64 me2, .float .f64 sp2, .slice ob n cb] 27))
  have ho2 : FloatKind.f64.format.order sc sc = some .eq := ho
  clear hs ha hb hn hl ho
  go_enter Try.func16, Try.ntmps16
  go_wp2_with (first
    | (go_at_call 31; refine (Hs.out _ Hbl.out).mono ?_; rintro e w5 ⟨rfl, hb5⟩; have HB5 := Lib.hid hb5; clear hb5))
  go_ret
  exact ⟨rfl, HB5.out⟩
end Go.Proofs.Ytebniijkhjnbdaa
