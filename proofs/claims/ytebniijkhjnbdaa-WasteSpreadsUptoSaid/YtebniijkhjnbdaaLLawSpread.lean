/- The walk of WasteSpreads. -/
import Derived.Test.YtebniijkhjnbdaaLWorks
import Derived.Test.YtebniijkhjnbdaaLSpread
set_option linter.unusedSimpArgs false
set_option linter.unusedVariables false
set_option exponentiation.threshold 3000
namespace Go.Proofs.Ytebniijkhjnbdaa
open Go.RowKit Go.Maps
open Go.Lib hiding intOf size_eq
theorem total_sizes : ∀ LL : List (List Chg), totalR (flatC LL) = (LL.map sizeC).sum
  | [] => rfl
  | L :: LL => by
    have e : flatC (L :: LL) = L.map cwOf ++ flatC LL := by unfold flatC; rw [List.flatten_cons, List.map_append]
    rw [e, totalR_append, total_sizes LL, List.map_cons, List.sum_cons]
    rfl
/-- the least and the greatest so far -/
structure LoHi (szs : List Nat) (i lo hi : Nat) : Prop where
  zero : i = 0 → lo = 0 ∧ hi = 0
  all : ∀ x ∈ szs.take i, lo ≤ x ∧ x ≤ hi
  mlo : 0 < i → lo ∈ szs.take i
  mhi : 0 < i → hi ∈ szs.take i
theorem LoHi.step {szs : List Nat} {i lo hi x : Nat} (h : LoHi szs i lo hi) (hx : szs[i]? = some x) : LoHi szs (i + 1) (if i = 0 ∨ x < lo then x else lo) (max hi x) := by
  have e : szs.take (i + 1) = szs.take i ++ [x] := (gtake hx).symm
  refine ⟨fun h => absurd h (by omega), fun y hy => ?_, fun _ => ?_, fun _ => ?_⟩
  · rw [e] at hy
    rcases List.mem_append.1 hy with hy | hy
    · have h1 := h.all y hy
      have hi0 : i ≠ 0 := fun e0 => by subst e0; cases hy
      split <;> omega
    · rw [List.mem_singleton.1 hy]
      split
      · exact ⟨Nat.le_refl _, Nat.le_max_right _ _⟩
      · rename_i hh
        rw [not_or] at hh
        exact ⟨by omega, Nat.le_max_right _ _⟩
  · rw [e, List.mem_append]
    split
    · exact .inr (List.mem_singleton.2 rfl)
    · rename_i hh
      rw [not_or] at hh
      exact .inl (h.mlo (by omega))
  · rw [e, List.mem_append]
    by_cases hi0 : i = 0
    · have := (h.zero hi0).2
      subst this
      rw [Nat.max_eq_right (Nat.zero_le _)]
      exact .inr (List.mem_singleton.2 rfl)
    · by_cases hm : x ≤ hi
      · rw [Nat.max_eq_left hm]; exact .inl (h.mhi (by omega))
      · rw [Nat.max_eq_right (by omega)]; exact .inr (List.mem_singleton.2 rfl)
set_option maxRecDepth 100000 in
set_option maxHeartbeats 4000000 in
theorem wasteSpreads_any (v : Value) (LL : List (List Chg)) (w : World) (h : DeltasAt w v LL) (hn : LL.length ≤ 1048576) (hm : (flatC LL).length ≤ 1048576) (ht : totalR (flatC LL) ≤ 1048576) (hp : ∀ L ∈ LL, ∀ c ∈ L, c.p.size ≤ 1048576) :
    Calls Try.prog 5 #[v] w fun r w' => r = .returned (.bool true) ∧ Below w.heap.size w w' := by
  have hlook := look_any v LL w h hn hm ht hp
  obtain ⟨o, cap, rfl, hlc, hcm⟩ := h.len
  obtain ⟨n, hnn⟩ : ∃ n, n = LL.length := ⟨_, rfl⟩
  rw [← hnn] at hlc hn hlook ⊢
  have Hlook := Lib.hid hlook
  have HW := Lib.hid works_any
  have Hd := Lib.hid h
  have Hnn := Lib.hid hnn
  have Hm := Lib.hid hm
  have Ht := Lib.hid ht
  have hsf := fun (x : Addr) (b : Nat) (m : Mode) (W : World) => run_store Try.prog W x (.float .f64 b) m rfl
  clear hlook h hnn hm ht hp
  go_enter Try.func5, Try.ntmps5
  go_wp2_with fail
  refine Hlook.out.mono ?_
  rintro r w1 ⟨vw, sc, me, sp, rfl, hv, hrow, hb1⟩
  obtain ⟨ow, cw, rfl⟩ := row_formG hrow
  obtain ⟨T, hT⟩ : ∃ y, y = totalR (flatC LL) := ⟨_, rfl⟩
  obtain ⟨le, hle⟩ : ∃ y, y = leastR (flatC LL) := ⟨_, rfl⟩
  obtain ⟨wn, hwn⟩ : ∃ y, y = (worstR (flatC LL)).length := ⟨_, rfl⟩
  rw [← hT, ← hle] at hv ⊢
  rw [← hwn]
  have hTT := Ht.out
  rw [← hT] at hTT
  have HV := Lib.hid hv
  have HB1 := Lib.hid hb1
  have HT := Lib.hid hT
  clear hv hb1 hT hle hwn hrow
  rw [show wasC (T : Int) (le : Int) sc me sp (.slice ow wn cw) = #[.int .i64 (T : Int), .int .i64 (le : Int), .float .f64 sc, .float .f64 me, .float .f64 sp, .slice ow wn cw] from rfl]
  go_upto_region 2 with fail
  have hn2 := World.alloc_heap_new w1 (.cells #[.int .i64 (T : Int), .int .i64 (le : Int), .float .f64 sc, .float .f64 me, .float .f64 sp, .slice ow wn cw] 27)
  have hb2 := HB1.out.alloc HB1.out.size (.cells #[.int .i64 (T : Int), .int .i64 (le : Int), .float .f64 sc, .float .f64 me, .float .f64 sp, .slice ow wn cw] 27)
  obtain ⟨w2, hw2⟩ : ∃ y, y = w1.alloc (.cells #[.int .i64 (T : Int), .int .i64 (le : Int), .float .f64 sc, .float .f64 me, .float .f64 sp, .slice ow wn cw] 27) := ⟨_, rfl⟩
  rw [← hw2] at hn2 hb2 ⊢
  obtain ⟨b, hb⟩ : ∃ y, y = w1.heap.size := ⟨_, rfl⟩
  rw [← hb] at hn2 ⊢
  have p0 := block_cell (j := 0) hn2 rfl
  have p3 := block_cell (j := 3) hn2 rfl
  have p4 := block_cell (j := 4) hn2 rfl
  have HB2 := Lib.hid hb2
  clear hw2 hb hn2 hb2 hsf
  have fin : ∀ W, Below w2.heap.size w2 W → Below w.heap.size w W := fun W hW => HB2.out.trans (hW.mono HB2.out.size)
  have Hfin := Lib.hid fin
  clear fin
  by_cases hn0 : n = 0
  · have hnil : LL = [] := List.eq_nil_of_length_eq_zero (by rw [← Hnn.out]; exact hn0)
    have o1 : FloatKind.f64.format.order me me = none := (HV.out.me0 (by rw [hnil]; rfl)).order me
    have o2 : FloatKind.f64.format.order sp sp = none := (HV.out.sp0 (by rw [hnil]; rfl)).order sp
    clear hnil
    go_wp2_with (first
      | (go_at_call 14; refine (HW.out _).mono ?_; rintro e w5 ⟨rfl, hb5⟩; have HB5 := Lib.hid hb5; clear hb5))
    go_ret
    exact ⟨rfl, Hfin.out _ HB5.out⟩
  · have hTi : ¬ (9007199254740992 : Int) < (T : Int) := by omega
    have hn0i : ¬ (n : Int) = 0 := by omega
    go_wp2_with fail
    go_loopw [4, 5, 6] (fun lv hv iv wr => ∃ i lo hi : Nat, lv = .int .i64 (lo : Int) ∧ hv = .int .i64 (hi : Int) ∧ iv = .int .i64 (i : Int) ∧ i ≤ n ∧ w2 = wr ∧ LoHi (LL.map sizeC) i lo hi) (fun _ _ iv _ => n - (intOf iv).toNat)
    case atStart => exact ⟨0, 0, 0, rfl, rfl, rfl, Nat.zero_le _, rfl, ⟨fun _ => ⟨rfl, rfl⟩, fun x hx => (by cases hx), fun h => absurd h (by omega), fun h => absurd h (by omega)⟩⟩
    case round =>
      obtain ⟨i, lo, hi, rfl, rfl, rfl, hin, rfl, hLH⟩ := hrel
      have HLH := Lib.hid hLH
      clear hLH
      by_cases hlt : i < n
      · obtain ⟨L, hL⟩ : ∃ L, LL[i]? = some L := ⟨_, List.getElem?_eq_getElem (by rw [← Hnn.out]; exact hlt)⟩
        obtain ⟨a, o2, c2, rfl, hab, hac0, hlc2, hcm2, hIt⟩ := Hd.out.get hL
        have hac := (HB2.out.cell (p := a.add i) (by rw [gadd_block]; exact hab)).trans hac0
        obtain ⟨m, hmm2⟩ : ∃ m, m = L.length := ⟨_, rfl⟩
        have hm1 : m ≤ 1048576 := by
          obtain ⟨R, hR⟩ := flatC_split hL
          have := Hm.out
          rw [hR] at this
          simp at this
          omega
        rw [← hmm2] at hac hlc2
        have HIt := Lib.hid (hIt.below HB2.out (Nat.le_refl _))
        have Hmm := Lib.hid hmm2
        have HL := Lib.hid hL
        clear hIt hmm2 hL hac0
        go_wp2_with fail
        go_loopw [7, 8] (fun sv kv wr => ∃ k : Nat, sv = .int .i64 (sizeC (L.take k) : Int) ∧ kv = .int .i64 (k : Int) ∧ k ≤ m ∧ w2 = wr) (fun _ kv _ => m - (intOf kv).toNat)
        case atStart => exact ⟨0, rfl, rfl, Nat.zero_le _, rfl⟩
        case round =>
          obtain ⟨k, rfl, rfl, hk, rfl⟩ := hrel
          by_cases hkm : k < m
          · obtain ⟨c, hc⟩ : ∃ c, L[k]? = some c := ⟨_, List.getElem?_eq_getElem (by rw [← Hmm.out]; exact hkm)⟩
            obtain ⟨a2, rfl, ha2, hcs⟩ := HIt.out.get hc
            obtain ⟨_, q1, q5⟩ := chg_cells hcs
            have Hc := Lib.hid hc
            clear hcs hc
            cases hg : c.g
            · rw [hg] at q1
              have hsz := size_le HL.out Hc.out hg
              have hsz1 : (sizeC (L.take k) : Int) + (c.d.size : Int) ≤ 1048576 := by have := Ht.out; omega
              clear hsz
              go_wp2_with fail
              go_roundw
              case rel => exact ⟨k + 1, by rw [sizeC_step Hc.out, hg]; simp, by go_num, by omega, by trivial⟩
              case measure => simp [intOf]; omega
            · rw [hg] at q1
              go_wp2_with fail
              go_roundw
              case rel => exact ⟨k + 1, by rw [sizeC_step Hc.out, hg]; simp, by go_num, by omega, by trivial⟩
              case measure => simp [intOf]; omega
          · obtain rfl : k = m := by omega
            have hLm : L.take k = L := by rw [Hmm.out, List.take_length]
            rw [hLm]
            have hsi : (LL.map sizeC)[i]? = some (sizeC L) := by rw [List.getElem?_map, HL.out]; rfl
            obtain ⟨s, hs⟩ : ∃ y, y = sizeC L := ⟨_, rfl⟩
            rw [← hs] at hsi ⊢
            have hst := HLH.out.step hsi
            have Hst := Lib.hid hst
            clear hLm hsi hs hst
            by_cases hi0 : i = 0
            · have hii : ((i : Int) == 0) = true := by simp [hi0]
              have e1 : (if i = 0 ∨ s < lo then s else lo) = s := if_pos (.inl hi0)
              rw [e1] at Hst
              have Hi0 := Lib.hid hi0
              clear e1 hi0
              go_wp2_with fail
              all_goals exact ⟨⟨i + 1, s, max hi s, rfl, congrArg (Value.int .i64) (by omega), by go_num, by omega, trivial, Hst.out⟩, by simp [intOf]; omega⟩
            · have hii : ((i : Int) == 0) = false := by simp [hi0]
              by_cases hsl : s < lo
              · have hsli : (s : Int) < (lo : Int) := by omega
                have e1 : (if i = 0 ∨ s < lo then s else lo) = s := if_pos (.inr hsl)
                rw [e1] at Hst
                clear e1
                go_wp2_with fail
                all_goals exact ⟨⟨i + 1, s, max hi s, rfl, congrArg (Value.int .i64) (by omega), by go_num, by omega, trivial, Hst.out⟩, by simp [intOf]; omega⟩
              · have hsli : ¬ (s : Int) < (lo : Int) := by omega
                have e1 : (if i = 0 ∨ s < lo then s else lo) = lo := if_neg (by rw [not_or]; exact ⟨hi0, hsl⟩)
                rw [e1] at Hst
                clear e1
                go_wp2_with fail
                all_goals exact ⟨⟨i + 1, lo, max hi s, rfl, congrArg (Value.int .i64) (by omega), by go_num, by omega, trivial, Hst.out⟩, by simp [intOf]; omega⟩
      · obtain rfl : i = n := by omega
        have hlen : (LL.map sizeC).length = i := by rw [List.length_map, Hnn.out]
        have htk : (LL.map sizeC).take i = LL.map sizeC := by rw [← hlen, List.take_length]
        have h1 := HLH.out.all
        have h2 := HLH.out.mlo (by omega)
        have h3 := HLH.out.mhi (by omega)
        rw [htk] at h1 h2 h3
        have hne : LL.map sizeC ≠ [] := fun e => by rw [e] at hlen; exact hn0 hlen.symm
        have hT2 := Ht.out
        have htot := total_sizes LL
        obtain ⟨g1, g2, g3, g4⟩ := spread_law HV.out (by rw [HT.out]; exact htot) (by rw [HT.out]; exact hT2) hne (by rw [hlen]; exact hn) h1 h2 h3 (fun x hx => by have := mem_le_sum hx; omega)
        have k1 : (FloatKind.f64.format.order me (Fl.fl lo) == some .gt || FloatKind.f64.format.order me (Fl.fl lo) == some .eq) = true := g1
        have k2 : (FloatKind.f64.format.order me (Fl.fl hi) == some .lt || FloatKind.f64.format.order me (Fl.fl hi) == some .eq) = true := g2
        have hfl := Fl.floatOfInt_nat lo
        have hfh := Fl.floatOfInt_nat hi
        clear htk h1 h2 h3 hne hT2 htot hlen g1 g2
        by_cases he : lo = hi
        · have k3 : (FloatKind.f64.format.order sp 0 == some .eq) = true := g3 he
          have hei : ((lo : Int) == (hi : Int)) = true := by rw [he]; simp
          clear g3 g4 he
          go_wp2_with (first
            | (go_at_call 14; refine (HW.out _).mono ?_; rintro e w5 ⟨rfl, hb5⟩; have HB5 := Lib.hid hb5; clear hb5))
          go_ret
          exact ⟨rfl, Hfin.out _ HB5.out⟩
        · have k3 : (FloatKind.f64.format.order sp 0 == some .gt) = true := g4 he
          have hei : ((lo : Int) == (hi : Int)) = false := by simp; omega
          have hei2 : ((lo : Int) != (hi : Int)) = true := by simp; omega
          clear g3 g4 he
          go_wp2_with (first
            | (go_at_call 14; refine (HW.out _).mono ?_; rintro e w5 ⟨rfl, hb5⟩; have HB5 := Lib.hid hb5; clear hb5))
          go_ret
          exact ⟨rfl, Hfin.out _ HB5.out⟩
end Go.Proofs.Ytebniijkhjnbdaa
