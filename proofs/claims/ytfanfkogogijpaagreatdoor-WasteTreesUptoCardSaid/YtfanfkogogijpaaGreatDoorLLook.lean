/- The walk of waste.Look. -/
import Derived.Test.YtfanfkogogijpaaGreatDoorLSort
set_option linter.unusedSimpArgs false
set_option linter.unusedVariables false
set_option exponentiation.threshold 3000
namespace Go.Proofs.YtfanfkogogijpaaGreatDoor
open Go.RowKit Go.Maps
open Go.Lib hiding intOf size_eq
set_option maxRecDepth 100000 in
set_option maxHeartbeats 4000000 in
theorem look_anyN (v : Value) (LL : List (List WChg)) (w : World) (h : DeltasAt w v LL) (hn : LL.length ≤ 1048576) (hm : (flatC LL).length ≤ 1048576) (ht : totalR (flatC LL) ≤ 1048576) (hp : ∀ L ∈ LL, ∀ c ∈ L, c.p.size ≤ 1048576) :
    Calls Tryz.prog 6 #[v] w fun r w' => ∃ (vw : Value) (sc me sp : Nat), r = .returned (.agg (wasC (totalR (flatC LL)) (leastR (flatC LL)) sc me sp vw)) ∧ LookV (totalR (flatC LL)) (leastR (flatC LL)) (LL.map sizeC) sc me sp ∧
      w'.ownsRow w.heap.size 55 3 vw (worstR (flatC LL)).length (((worstR (flatC LL)).map LostN.by).flatMap lostC) ∧ Below w.heap.size w w' ∧ ((worstR (flatC LL)).length = 0 → vw = .slice none 0 0) := by
  obtain ⟨o, cap, rfl, hlc, hcm⟩ := h.len
  obtain ⟨n, hnn⟩ : ∃ n, n = LL.length := ⟨_, rfl⟩
  rw [← hnn] at hlc hn ⊢
  obtain ⟨iF, hiF, hF0, hF1, hF2⟩ := info_parts Tryz.infoF
  obtain ⟨iL, hiL, hL0, hL1, hL2⟩ := info_parts Tryz.infoLost
  have HiL := Lib.hid hiL
  have HL0 := Lib.hid hL0
  have HL1 := Lib.hid hL1
  have HL2 := Lib.hid hL2
  clear hiL hL0 hL1 hL2
  have hmm := @run_makeMap Tryz.prog
  have hsf := fun (x : Addr) (b : Nat) (m : Mode) (W : World) => run_store Tryz.prog W x (.float .f64 b) m rfl
  have hmk : ∀ W, (Instr.makeSlice 47 (.int .i64 (n : Int)) (.int .i64 (n : Int))).run Tryz.prog W = .ok (.slice (some ⟨W.heap.size, 0, none⟩) n n) (W.alloc (.cells (floats n) 34)) := fun W => by
    have := run_make (P := Tryz.prog) W 47 34 iF (.float .f64 0) Tryz.underlying47 hiF hF0 .i64 .i64 (n : Int) (n : Int) (by omega) (Int.le_refl _) (by rw [hF2]; omega) (by omega)
    rw [Int.toNat_natCast, hF1, Nat.mul_one] at this
    exact this
  have Hd := Lib.hid h
  have Hnn := Lib.hid hnn
  clear h hnn hiF hF0 hF1 hF2
  go_enter Tryz.func6, Tryz.ntmps6
  have Hone := Lib.hid (show (#[Value.int .i64 0, Value.int .i64 0, Value.float .f64 4607182418800017408, Value.float .f64 0, Value.float .f64 0, Value.slice none 0 0] : Array Value).all (·.oneCell') = true by simp [Value.oneCell'])
  have Hvar := Lib.hid (lookW_var w n)
  go_wp2_with (first
    | (refine wpList_store_row rfl _ _ _ rfl (w.heap.size + 1 + 1 + 1) #[Value.int .i64 0, Value.int .i64 0, Value.float .f64 4607182418800017408, Value.float .f64 0, Value.float .f64 0, Value.slice none 0 0] rfl rfl 37 (wasC 0 0 0 0 0 (.slice none 0 0)) Hvar.out (by kernel_rfl) rfl Hone.out ?_
       have Hst := Lib.hid (look_start w n)
       obtain ⟨w4, hw4⟩ : ∃ x, x = (lookW w n).setRow (w.heap.size + 1 + 1 + 1) (wasC 0 0 flOne 0 0 (.slice none 0 0)) := ⟨_, rfl⟩
       rw [← hw4] at Hst
       change wpList _ _ _ _ _ ((lookW w n).setRow (w.heap.size + 1 + 1 + 1) (wasC 0 0 flOne 0 0 (.slice none 0 0)))
       rw [← hw4]
       clear hw4 Hone Hvar))
  go_loopw [29] (fun iv wr => ∃ i : Nat, iv = .int .i64 (i : Int) ∧ i ≤ n ∧ LookI w wr w.heap.size n (flatC (LL.take i)) (totalR (flatC (LL.take i))) ((LL.take i).map sizeC)) (fun iv _ => n - (intOf iv).toNat)
  case atStart => exact ⟨0, rfl, Nat.zero_le _, Hst.out⟩
  case round =>
    clear Hst
    obtain ⟨i, rfl, hi, hI⟩ := hrel
    by_cases hlt : i < n
    · obtain ⟨L, hL⟩ : ∃ L, LL[i]? = some L := ⟨_, List.getElem?_eq_getElem (by rw [← Hnn.out]; exact hlt)⟩
      obtain ⟨a, o2, c2, rfl, hab, hac0, hlc2, hcm2, hIt⟩ := Hd.out.get hL
      have hac := (hI.bel.cell (p := a.add i) (by rw [gadd_block]; exact hab)).trans hac0
      clear hac0
      obtain ⟨m, hmm2⟩ : ∃ m, m = L.length := ⟨_, rfl⟩
      have hm1 : m ≤ 1048576 := by
        obtain ⟨R, hR⟩ := flatC_split hL
        rw [hR] at hm
        simp at hm
        omega
      rw [← hmm2] at hac hlc2
      have HI := Lib.hid hI
      have HIt := Lib.hid hIt
      have Hmm := Lib.hid hmm2
      have HL := Lib.hid hL
      have Hp := Lib.hid hp
      have Ht := Lib.hid ht
      have Hm := Lib.hid hm
      clear hI hIt hmm2 hL hm ht hp
      go_wp2_with fail
      obtain ⟨wo, hwo⟩ : ∃ x, x = wr := ⟨_, rfl⟩
      subst hwo
      go_loopw [8, 36] (fun sv kv wr => ∃ k : Nat, sv = .int .i64 (sizeC (L.take k) : Int) ∧ kv = .int .i64 (k : Int) ∧ k ≤ m ∧ LookI w wr w.heap.size n (flatC (LL.take i) ++ (L.take k).map cwOf) (totalR (flatC (LL.take i))) ((LL.take i).map sizeC) ) (fun _ kv _ => m - (intOf kv).toNat)
      case atStart => exact ⟨0, rfl, rfl, Nat.zero_le _, by simpa using HI.out⟩
      case round =>
        obtain ⟨k, rfl, rfl, hk, hIk⟩ := hrel
        by_cases hkm : k < m
        · obtain ⟨c, hc⟩ : ∃ c, L[k]? = some c := ⟨_, List.getElem?_eq_getElem (by rw [← Hmm.out]; exact hkm)⟩
          obtain ⟨a2, rfl, ha2, hcs⟩ := (HIt.out.below hIk.bel (Nat.le_refl _)).get hc
          have hpc : c.p.size ≤ 1048576 := Hp.out L (List.mem_of_getElem? HL.out) c (List.mem_of_getElem? hc)
          have Hcs := Lib.hid hcs
          have HIk := Lib.hid hIk
          have Hc := Lib.hid hc
          clear hcs hIk hc
          go_upto_region 11 with (first
            | (refine wpList_load_items rfl _ _ rfl (a2.add (k * 7)) rfl [.string c.p, .bool c.g, .string c.ep, .int .i64 c.k, .int .i64 c.m, .string c.d, .string c.l] _ Hcs.out Tryz.underlying49 rfl (by kernel_rfl) ?_))
          have hc1 := boxC_at wr c
          have hb1 := boxC_below wr c
          obtain ⟨w1, hw1⟩ : ∃ x, x = boxC wr c := ⟨_, rfl⟩
          rw [← hw1] at hc1 hb1
          change Code.wp _ _ _ _ (boxC wr c)
          rw [← hw1]
          clear hw1
          have p0 := block_cell (j := 0) hc1 rfl
          have p1 := block_cell (j := 1) hc1 rfl
          have p5 := block_cell (j := 5) hc1 rfl
          have HI1 := Lib.hid (LookI.below HIk.out hb1)
          obtain ⟨N, D, bl, hcst, hN⟩ := HI1.out.cst
          have Hcst := Lib.hid hcst
          have HN := Lib.hid hN
          have Hb1 := Lib.hid hb1
          have HC1 := Lib.hid hc1
          clear hc1 hb1 hcst hN
          obtain ⟨cb, hcb⟩ : ∃ x, x = wr.heap.size := ⟨_, rfl⟩
          rw [← hcb] at p0 p1 p5 HC1 ⊢
          have Hcb := Lib.hid hcb
          clear hcb
          cases hg : c.g
          · rw [hg] at p1
            have hcp : c.p.size ≤ maxLen := by unfold maxLen; omega
            cases hf : getM (costsM (flatC (LL.take i) ++ (L.take k).map cwOf)) c.p.data.toList
            · have Hcp := Lib.hid hcp
              have Hf := Lib.hid hf
              go_upto_region 20 with (first
                | (at_lookup; refine wpList_lookup_cost rfl _ _ rfl (w.heap.size + 1) (w.heap.size + 4) N D bl _ rfl Hcst.out c.p rfl Hcp.out ?_; rw [Hf.out, show ptrV ((none : Option Cost).map fun _ => bl c.p.data.toList) = Value.pointer none from rfl]))
              have hn2 := boxN_at w1
              have hb2 := boxN_below w1
              obtain ⟨w2, hw2⟩ : ∃ x, x = boxN w1 := ⟨_, rfl⟩
              rw [← hw2] at hn2 hb2
              change Code.wp _ _ _ _ (boxN w1)
              rw [← hw2]
              clear hw2
              have hc2 := (hb2.block _ (heap_lt HC1.out)).trans HC1.out
              clear p0 p1 p5
              have p0 := block_cell (j := 0) hc2 rfl
              obtain ⟨b, hb⟩ : ∃ x, x = w1.heap.size := ⟨_, rfl⟩
              have Hfr := fun w3 => Lib.hid (Hcst.out.fresh (c := cwOf c) (w2 := w2) (w3 := w3) (by have := heap_lt HI1.out.var; omega) hg Hf.out hb2 hn2)
              have hmp := ownsMap_block Hcst.out.map (hb2.block _ Hcst.out.map.lt)
              have Hmp := Lib.hid hmp
              have HC2 := Lib.hid hc2
              have Hb2 := Lib.hid hb2
              have hNs : N < maxLen := by
                have := HN.out
                have h1 := done_len (k := k) HL.out
                have := Hm.out
                unfold maxLen
                omega
              have HNs := Lib.hid hNs
              clear hmp hc2 hb2 hn2 hf hcp hNs
              rw [← hb] at Hfr ⊢
              have Hb := Lib.hid hb
              clear hb
              go_upto_region 21 with (first
                | (at_mapUpdate; refine wpList_mapUpdate_own _ rfl _ _ _ 46 rfl 9 50 Tryz.wkeyed_str Tryz.underlying46 ptrE (w.heap.size + 1) N D rfl Hmp.out HNs.out (.string c.p) (.pointer (some ⟨b, 0, none⟩)) (.string c.p.data.toList) rfl rfl (wkey_text Hcp.out) (ptrD (some b)) [] (ptrE_v (some b)) ?_; intro w3 hown3 hgrow3))
              obtain ⟨e3, hcs3⟩ := (Hfr w3).out hown3 hgrow3 (by rw [Hb.out]; have := heap_lt HI1.out.var; omega)
              rw [bump_new] at hcs3
              obtain ⟨k0, k1, _, kf⟩ := cost_cell e3
              have kf0 := kf 0
              have kf1 := kf 1
              have kf2 := kf 2
              have k2 := (cost_cell e3).2.2.1
              have hc3 := (hgrow3.block _ (heap_lt HC2.out) (fun e => by have := Option.some.inj e; have := heap_lt HIk.out.var; have := Hcb.out; omega)).trans HC2.out
              have p5 := block_cell (j := 5) hc3 rfl
              have Hcs3 := Lib.hid hcs3
              have Hg3 := Lib.hid hgrow3
              clear e3 hcs3 kf hc3 hown3 hgrow3
              have hsz := size_le HL.out Hc.out hg
              have hszt := Ht.out
              have hsz1 : (sizeC (L.take k) : Int) + (c.d.size : Int) ≤ 1048576 := by omega
              clear hsz hszt
              go_wp2_with fail
              go_roundw
              case rel =>
                refine ⟨k + 1, ?_, by go_num, by omega, ?_⟩
                · rw [sizeC_step Hc.out, hg]; simp
                · rw [cw_step Hc.out, ← List.append_assoc]
                  refine HI1.out.laid rfl (Nat.succ_le_succ HN.out) Hcs3.out ⟨Hg3.out.os.trans Hb2.out.os, Hg3.out.tape.trans Hb2.out.tape, Hg3.out.output.trans Hb2.out.output, by simpa using Nat.le_trans Hb2.out.size Hg3.out.size⟩ fun j hj hj4 hj1 => ?_
                  have hjb : j ≠ b := by rw [Hb.out]; omega
                  rw [Below.heap_setCell _ _ _ _ hjb, Below.heap_setCell _ _ _ _ hjb, Below.heap_setCell _ _ _ _ hjb, Hg3.out.block _ (Nat.lt_of_lt_of_le hj Hb2.out.size) (fun e => hj1 (Option.some.inj e))]
                  exact Hb2.out.block j hj
              case measure => simp [intOf]; omega
            · rename_i y
              have Hcp := Lib.hid hcp
              have Hf := Lib.hid hf
              have hag := Hcst.out.again (c := cwOf c) hg hf
              obtain ⟨b, hb⟩ : ∃ x, x = bl c.p.data.toList := ⟨_, rfl⟩
              have hbc := Hcst.out.obj _ _ hf
              have hblo := Hcst.out.lo _ _ hf
              rw [show bl (cwOf c).p = b from hb.symm] at hag
              rw [← hb] at hbc hblo
              obtain ⟨k0, k1, k2, kf⟩ := cost_cell hbc
              have kf0 := kf 0
              have kf1 := kf 1
              have kf2 := kf 2
              have hy := Hcst.out.cd
              have hyb : y.t ≤ 1048576 ∧ y.all + c.d.size ≤ 1048576 := by
                have h1 := costs_get c.p.data.toList (flatC (LL.take i) ++ (L.take k).map cwOf)
                rw [hf] at h1
                unfold costF at h1
                split at h1
                · cases h1
                · injection h1 with h1
                  have h2 := timesF_le (flatC (LL.take i) ++ (L.take k).map cwOf) c.p.data.toList
                  have h3 := allF_le (flatC (LL.take i) ++ (L.take k).map cwOf) c.p.data.toList
                  have h4 := done_len (k := k) HL.out
                  have h5 := Hm.out
                  have h6 := Ht.out
                  have h7 := size_le HL.out Hc.out hg
                  have h8 := sizes_le HL.out
                  have h9 : totalR (flatC (LL.take i) ++ (L.take k).map cwOf) + c.d.size ≤ totalR (flatC LL) := by
                    have h10 := done_tot (k := k + 1) HL.out
                    rw [cw_step Hc.out, ← List.append_assoc, totalR_append] at h10
                    have h11 : totalR [cwOf c] = c.d.size := by unfold totalR bringsF cwOf; simp [hg]
                    omega
                  subst h1
                  simp only
                  omega
              have hy1 : (y.t : Int) + 1 ≤ 1048577 := by omega
              have hy2 : (y.all : Int) + (c.d.size : Int) ≤ 1048576 := by omega
              have Hag := Lib.hid hag
              have Hb := Lib.hid hb
              have Hblo := Lib.hid hblo
              clear hag hb hbc kf hf hcp hblo hy
              have hsz := size_le HL.out Hc.out hg
              have hszt := Ht.out
              have hsz1 : (sizeC (L.take k) : Int) + (c.d.size : Int) ≤ 1048576 := by omega
              clear hsz hszt
              go_wp2_with (first
                | (at_lookup; refine wpList_lookup_cost rfl _ _ rfl (w.heap.size + 1) (w.heap.size + 4) N D bl _ rfl Hcst.out c.p rfl Hcp.out ?_; rw [Hf.out, show ptrV ((some y).map fun _ => bl c.p.data.toList) = Value.pointer (some ⟨b, 0, none⟩) by rw [Hb.out]; rfl]))
              go_roundw
              case rel =>
                refine ⟨k + 1, ?_, by go_num, by omega, ?_⟩
                · rw [sizeC_step Hc.out, hg]; simp
                · rw [cw_step Hc.out, ← List.append_assoc]
                  refine HI1.out.laid rfl (Nat.le_succ_of_le HN.out) Hag.out ⟨rfl, rfl, rfl, by simp [bump]⟩ fun j hj hj4 hj1 => ?_
                  have hjb : j ≠ b := by have := Hblo.out; omega
                  exact bump_other _ _ _ _ _ hjb
              case measure => simp [intOf]; omega
          · rw [hg] at p1
            go_wp2_with (first
              | (at_range; refine wpList_range_own _ rfl _ 46 rfl 9 50 Tryz.wkeyed_str Tryz.underlying46 ptrE (w.heap.size + 1) N D rfl Hcst.out.map ?_; intro w2 hrg0 hg0 hs0))
            go_frame
            have Hst := Lib.hid (GoneAt.start Hcst.out c.p.data.toList hrg0 hg0)
            clear hrg0 hg0 hs0
            go_loopw [44] (fun _ wr => ∃ (left : Lit → Bool) (cnt : Nat), GoneAt w1 wr (w.heap.size + 1) (w.heap.size + 4) w1.heap.size N D bl (getM (costsM (flatC (LL.take i) ++ (L.take k).map cwOf))) c.p.data.toList left cnt) (fun _ wr => wr.rangeLeft (w.heap.size + 1) w1.heap.size)
            case atStart => exact ⟨_, _, Hst.out⟩
            case round =>
              clear Hst
              obtain ⟨left, cnt, hG⟩ := hrel
              have HG := Lib.hid hG
              have hrg := hG.rg
              clear hG
              go_wp2_with (first
                | (at_next; refine wpList_next_ranges _ rfl _ rfl 9 Tryz.wkeyed_str ptrE Value.string ptrV (fun key kl hk => by obtain ⟨x, h1, _⟩ := key_inv hk; exact ⟨x, h1⟩) (fun v y hv => by obtain ⟨o, h1, _⟩ := ptrE_shape hv; exact ⟨o, h1⟩) (w.heap.size + 1) w1.heap.size N _ _ _ rfl hrg ?_ ?_))
              · intro hc0 hl0
                have HL0 := Lib.hid hl0
                clear hl0
                go_wp2
                go_roundw
                case rel =>
                  refine ⟨k + 1, ?_, by go_num, by omega, ?_⟩
                  · rw [sizeC_step Hc.out, hg]; rfl
                  · rw [cw_step Hc.out, ← List.append_assoc]
                    exact HI1.out.gone rfl HN.out HG.out HL0.out hg
                case measure => simp [intOf]; omega
              · intro x ov kl yd yp w3 cnt3 hkey hlx hv hat hrg3 hlt3 hg3 hs3 hen
                obtain ⟨x', hx1, hkl, hxs⟩ := key_inv hkey
                cases hx1
                subst hkl
                obtain ⟨cc, hf, rfl, hcb⟩ := HG.out.came (y := (yd, yp)) hlx hv hat
                obtain ⟨b, hbq⟩ : ∃ b, b = bl x.data.toList := ⟨_, rfl⟩
                rw [show ptrV (some (bl x.data.toList)) = Value.pointer (some ⟨b, 0, none⟩) by rw [← hbq]; rfl] at hen ⊢
                have hcbW := HG.out.still Hcst.out hg3 HC1.out (by decide)
                have hb3 : w3.heap[b]? = some (costObj cc) := by
                  rw [hbq]
                  have := HG.out.r0
                  have := HG.out.old _ cc hf
                  rw [hg3.block _ (heap_lt hcb) (fun e => by have := Option.some.inj e; omega)]
                  exact hcb
                obtain ⟨_, _, k2, kf⟩ := cost_cell hb3
                have kf2 := kf 2
                have hxs2 : x.size ≤ 1048576 := by
                  obtain ⟨y, hy, hyp⟩ := key_of hf
                  obtain ⟨L', hL', c', hc', rfl⟩ := mem_flatC (done_sub HL.out hy)
                  have h1 := Hp.out L' hL' c' hc'
                  have h2 : c'.p.data.toList = x.data.toList := hyp
                  rw [ba_ext h2] at h1
                  exact h1
                have q0 := block_cell (j := 0) hcbW rfl
                have HB := Lib.hid (fun W => below_any c.p x W (by omega) (by omega))
                have HCW := Lib.hid hcbW
                have Hf := Lib.hid hf
                have Hb3 := Lib.hid hb3
                have Hbq := Lib.hid hbq
                have Hlx := Lib.hid hlx
                have Hr3 := Lib.hid hrg3
                have Hg3 := Lib.hid hg3
                clear hcbW hat hv hkey hf hb3 hbq kf hlx hrg3 hg3 hcb
                cases he : (x.toList == c.p.toList)
                · have hne := hits_ne he
                  cases hbb : belowP c.p.data.toList x.data.toList
                  · rw [hbb] at HB hne
                    have Hne := Lib.hid hne
                    clear hne hbb
                    have hG2 := HG.out.step (w2 := w3) Hr3.out Hg3.out Hf.out Hlx.out ⟨rfl, rfl, rfl, Nat.le_refl _⟩ (fun k _ hk => rfl) (by rw [← Hbq.out, if_neg (by rw [Hne.out]; decide)]; exact Hb3.out)
                    have HG2 := Lib.hid hG2
                    clear hG2
                    go_wp2_with (first
                      | (go_at_call 11; refine (HB.out _).mono ?_; rintro e w5 ⟨rfl, rfl⟩))
                    go_roundw
                    case rel => exact ⟨_, cnt3, HG2.out⟩
                    case measure => rw [HG2.out.rg.left_eq, HG.out.rg.left_eq]; exact hlt3
                  · rw [hbb] at HB hne
                    have Hne := Lib.hid hne
                    clear hne hbb
                    have hG2 := HG.out.step (w2 := w3.setCell ⟨b, 2, none⟩ (.int .i64 0)) Hr3.out Hg3.out Hf.out Hlx.out ⟨rfl, rfl, rfl, by simp⟩ (fun k _ hk => Below.heap_setCell _ _ _ _ (by rw [Hbq.out]; exact hk)) (by rw [← Hbq.out, if_pos Hne.out]; exact zero_at Hb3.out)
                    have HG2 := Lib.hid hG2
                    clear hG2
                    go_wp2_with (first
                      | (go_at_call 11; refine (HB.out _).mono ?_; rintro e w5 ⟨rfl, rfl⟩))
                    go_roundw
                    case rel => exact ⟨_, cnt3, HG2.out⟩
                    case measure => rw [HG2.out.rg.left_eq, HG.out.rg.left_eq]; exact hlt3
                · have Hne := Lib.hid (hits_eq he)
                  have hG2 := HG.out.step (w2 := w3.setCell ⟨b, 2, none⟩ (.int .i64 0)) Hr3.out Hg3.out Hf.out Hlx.out ⟨rfl, rfl, rfl, by simp⟩ (fun k _ hk => Below.heap_setCell _ _ _ _ (by rw [Hbq.out]; exact hk)) (by rw [← Hbq.out, if_pos Hne.out]; exact zero_at Hb3.out)
                  have HG2 := Lib.hid hG2
                  clear hG2
                  go_wp2_with (first
                    | (go_at_call 11; refine (HB.out _).mono ?_; rintro e w5 ⟨rfl, rfl⟩))
                  go_roundw
                  case rel => exact ⟨_, cnt3, HG2.out⟩
                  case measure => rw [HG2.out.rg.left_eq, HG.out.rg.left_eq]; exact hlt3
        · obtain rfl : k = m := by omega
          have HIk := Lib.hid hIk
          clear hIk
          obtain ⟨cur, s1, s2, s3⟩ := HIk.out.siz
          obtain ⟨v0, hv0⟩ : ∃ v0, cur[i]? = some v0 := ⟨_, Array.getElem?_eq_getElem (by omega)⟩
          have c2 := block_cell (b := w.heap.size + 1 + 1) s1 hv0
          have f2 := block_frozen (b := w.heap.size + 1 + 1) s1 i
          have hvar := HIk.out.var
          have c3 : wr.cell? ⟨w.heap.size + 1 + 1 + 1, 0, none⟩ = some (.int .i64 (totalR (flatC (LL.take i)) : Nat)) := block_cell (b := w.heap.size + 1 + 1 + 1) (j := 0) (show wr.heap[w.heap.size + 1 + 1 + 1]? = some (.cells (wasC (totalR (flatC (LL.take i)) : Nat) 0 flOne 0 0 (.slice none 0 0)) 37 (0, 0)) from hvar) rfl
          have f3 := block_frozen (b := w.heap.size + 1 + 1 + 1) (show wr.heap[w.heap.size + 1 + 1 + 1]? = some (.cells (wasC (totalR (flatC (LL.take i)) : Nat) 0 flOne 0 0 (.slice none 0 0)) 37 (0, 0)) from hvar) 0
          have hLm : L.take k = L := by rw [Hmm.out, List.take_length]
          have hsl := sizes_le HL.out
          have hst := Ht.out
          have hsum : (totalR (flatC (LL.take i)) : Int) + (sizeC (L.take k) : Int) ≤ 1048576 := by rw [hLm]; omega
          have Hlm := Lib.hid hLm
          clear hLm hsl hst hvar s1 s2 s3 hv0
          obtain ⟨s, hs⟩ : ∃ x, x = sizeC (L.take k) := ⟨_, rfl⟩
          obtain ⟨tot, htt⟩ : ∃ x, x = totalR (flatC (LL.take i)) := ⟨_, rfl⟩
          rw [← hs, ← htt] at hsum
          rw [← htt] at c3
          rw [← hs]
          have hwr : IntKind.i64.wrap ((tot : Int) + (s : Int)) = (tot : Int) + (s : Int) := by rw [IntKind.wrap_i64]; omega
          have Hs := Lib.hid hs
          have Htt := Lib.hid htt
          clear hs htt
          go_wp2_with fail
          go_roundw
          case rel =>
            refine ⟨i + 1, by go_num, by omega, ?_⟩
            have h9 := HIk.out.layer (s := s) rfl (by simp; omega)
            rw [show ((LL.take i).map sizeC).length = i by simp; have := Hnn.out; omega, ← Htt.out] at h9
            rw [Hlm.out] at h9
            rw [flatC_take HL.out, totalR_append, show totalR (L.map cwOf) = sizeC L from rfl, ← gtake HL.out, List.map_append, ← Htt.out]
            rw [Hs.out, Hlm.out] at h9 ⊢
            exact h9
          case measure => simp [intOf]; omega
    · obtain rfl : i = n := by omega
      obtain ⟨w0, hw0⟩ : ∃ x, x = wr := ⟨_, rfl⟩
      subst hw0
      have htk : LL.take i = LL := by rw [Hnn.out, List.take_length]
      rw [htk] at hI
      obtain ⟨N, D, bl, hcst, hN⟩ := hI.cst
      have hcd := hcst.cd
      have HI := Lib.hid hI
      have Hcst := Lib.hid hcst
      have Hcd := Lib.hid hcd
      have HN := Lib.hid hN
      have Ht := Lib.hid ht
      have Hm := Lib.hid hm
      have Hp := Lib.hid hp
      clear hI htk hcst hcd hN ht hm hp
      go_wp2_with (first
        | (at_range; refine wpList_range_own _ rfl _ 46 rfl 9 50 Tryz.wkeyed_str Tryz.underlying46 ptrE (w.heap.size + 1) N D rfl Hcst.out.map ?_; intro w2 hrg0 hg0 hs0))
      go_frame
      have Hrg0 := Lib.hid hrg0
      have HJ0 := Lib.hid (SumJ.start HI.out Hcst.out hrg0 hg0 hs0)
      clear hrg0 hg0 hs0
      go_loopw [114] (fun _ wr => ∃ (left : Lit → Bool) (cnt : Nat) (V : List (List UInt8)) (vw : Value), wr.ranges Tryz.prog 9 ptrE (w.heap.size + 1) w0.heap.size N D left cnt ∧ SeenV (getM (costsM (flatC LL))) left V ∧ SumJ w w0 wr w.heap.size i w0.heap.size bl (getM (costsM (flatC LL))) (totalR (flatC LL)) (LL.map sizeC) (leastV (getM (costsM (flatC LL))) V) vw (lostV (getM (costsM (flatC LL))) V)) (fun _ wr => wr.rangeLeft (w.heap.size + 1) w0.heap.size)
      case atStart => exact ⟨_, _, [], _, Hrg0.out, SeenV.start Hcd.out, HJ0.out⟩
      case round =>
        clear Hrg0 HJ0
        obtain ⟨left, cnt, V, vw, hrg, hS, hJ⟩ := hrel
        have HS := Lib.hid hS
        have HJ := Lib.hid hJ
        clear hS hJ
        go_wp2_with (first
          | (at_next; refine wpList_next_ranges _ rfl _ rfl 9 Tryz.wkeyed_str ptrE Value.string ptrV (fun key kl hk => by obtain ⟨x, h1, _⟩ := key_inv hk; exact ⟨x, h1⟩) (fun v y hv => by obtain ⟨o, h1, _⟩ := ptrE_shape hv; exact ⟨o, h1⟩) (w.heap.size + 1) w0.heap.size N _ _ _ rfl hrg ?_ ?_))
        · intro hc0 hl0
          have hperm := HS.out.perm hl0
          have hJ := HJ.out
          rw [leastV_of hperm] at hJ
          have hV := HS.out.nod
          have hlost : ∀ x ∈ lostV (getM (costsM (flatC LL))) V, x.p.size ≤ 1099511627776 := fun x hx => by
            obtain ⟨c, hc, hx⟩ := List.mem_flatMap.1 hx
            unfold lostOne at hx
            split at hx
            · cases hx
            · rename_i y hy
              split at hx
              · rw [List.mem_singleton.1 hx]
                obtain ⟨z, hz, hzp⟩ := key_of hy
                obtain ⟨L', hL', c', hc', rfl⟩ := mem_flatC hz
                have h1 := Hp.out L' hL' c' hc'
                have h2 : c'.p.data.toList = c := hzp
                have h3 : c'.p.size = c'.p.data.toList.length := (Array.length_toList).symm
                show (bs c).size ≤ _
                rw [bs_size, ← h2]
                omega
              · cases hx
          have hlen : (lostV (getM (costsM (flatC LL))) V).length ≤ 1048576 := Nat.le_trans (lostV_le _ _) (Nat.le_trans (SeenV.le HS.out) Hm.out)
          have hsort := sort_any _ hlost hlen (lostV_apart hV) vw (w0.heap.size + 1) wr hJ.row
          have hv := hJ.var
          have x5 : wr.cell? ⟨w.heap.size + 1 + 1 + 1, 5, none⟩ = some vw := by
            unfold wasObj at hv
            exact block_cell (b := w.heap.size + 1 + 1 + 1) hv rfl
          have Hsort := Lib.hid hsort
          have HJ1 := Lib.hid hJ
          have Hperm := Lib.hid hperm
          clear hperm hJ hV hlost hlen hsort hv hl0 hc0 hrg HJ
          go_upto_region 37 with (first
            | (go_at_call 12; refine Hsort.out.mono ?_; rintro e w9 ⟨rfl, R', hp', hs', hrow', hg'⟩
               have hF9 := HJ1.out.sorted hg' hrow'
               have hR' := sorted_is Hperm.out hp' hs'
               have HF9' := Lib.hid hF9
               have HR' := Lib.hid hR'
               clear hp' hs' hrow' hg' hF9 hR'))
          have hF9 := HF9'.out
          rw [HR'.out] at hF9
          clear HF9' HR' x5 Hsort HJ1 Hperm HS
          obtain ⟨T, hTd⟩ : ∃ y, y = totalR (flatC LL) := ⟨_, rfl⟩
          obtain ⟨le, hled⟩ : ∃ y, y = leastR (flatC LL) := ⟨_, rfl⟩
          obtain ⟨szs, hszd⟩ : ∃ y, y = LL.map sizeC := ⟨_, rfl⟩
          have hT := Ht.out
          have hlt := costs_sum (flatC LL)
          have hszl : szs.length = i := by rw [hszd, List.length_map, Hnn.out]
          have hsm : ∀ x ∈ szs, x ≤ 1048576 := fun x hx => by
            rw [hszd] at hx
            obtain ⟨L', hL', rfl⟩ := List.mem_map.1 hx
            obtain ⟨k', hk'⟩ := List.getElem?_of_mem hL'
            have := sizes_le hk'
            omega
          have h00 : i = 0 → T = 0 := fun h => by
            have : LL = [] := List.eq_nil_of_length_eq_zero (by rw [← Hnn.out]; exact h)
            rw [hTd, this]
            rfl
          obtain ⟨worst, hwd⟩ : ∃ y, y = worstR (flatC LL) := ⟨_, rfl⟩
          rw [← hTd, ← hled, ← hszd, ← hwd] at hF9
          rw [← hTd] at hT hlt
          rw [← hled] at hlt
          have HTd := Lib.hid hTd
          have Hled := Lib.hid hled
          have Hszd := Lib.hid hszd
          have Hwd := Lib.hid hwd
          have hle : le ≤ T := by omega
          have Hsz := Lib.hid hszl
          have Hsm := Lib.hid hsm
          have HF9 := Lib.hid hF9
          obtain ⟨a0, a1, a2, a3, a4, f2, f3, f4⟩ := hF9.cells
          have hfT := Fl.floatOfInt_nat T
          have hfl := Fl.floatOfInt_nat le
          have hfi := Fl.floatOfInt_nat i
          clear hlt hszl hsm hF9 hTd hled hszd hwd Ht Hm Hp HI Hcst Hcd HN Hd hmm hmk
          by_cases hi0 : i = 0
          · have HT0 := Lib.hid (h00 hi0)
            have Hi0 := Lib.hid hi0
            clear hi0 h00
            have hTi : ¬ (0 : Int) < (T : Int) := by have := HT0.out; omega
            go_upto_region 39 with fail
            have hF10 := HF9.out
            obtain ⟨w10, hw10⟩ : ∃ y, y = w9 := ⟨_, rfl⟩
            rw [← hw10] at hF10 ⊢
            clear hw10 a0 a1 a2 a3 a4 f2 f3 f4
            obtain ⟨sc, hsc0⟩ : ∃ y, y = flOne := ⟨_, rfl⟩
            rw [← hsc0] at hF10
            have hs0 : T = 0 → sc = flOne := fun _ => hsc0
            have hs1 : T ≠ 0 → Fl.F.div (Fl.fl le) (Fl.fl T) = some sc := fun h => absurd HT0.out h
            clear hsc0

            have Hs0 := Lib.hid hs0
            have Hs1 := Lib.hid hs1
            have HF10 := Lib.hid hF10
            obtain ⟨a0, a1, a2, a3, a4, f2, f3, f4⟩ := hF10.cells
            clear hs0 hs1 hF10 hTi

            obtain ⟨me, hme, hrm⟩ := run_quo_nan (P := Tryz.prog) w10 34 (x := Fl.fl T) (y := Fl.fl i) (by rw [HT0.out, Hi0.out, Fl.fl_zero]; exact div_zero_zero)
            have Hme := Lib.hid hme
            clear hme
            go_upto_region 41 with fail
            have hF11 := HF10.out.drew.put (j := 3) (v := .float .f64 me) (sc' := sc) (me' := me) (sp' := 0) (by simp [wasC])
            obtain ⟨w11, hw11⟩ : ∃ y, y = w10.drew.setCell ⟨w.heap.size + 3, 3, none⟩ (.float .f64 me) := ⟨_, rfl⟩
            rw [← hw11] at hF11
            change Code.wp _ _ _ _ (w10.drew.setCell ⟨w.heap.size + 3, 3, none⟩ (.float .f64 me))
            rw [← hw11]
            clear hw11 hrm a0 a1 a2 a3 a4 f2 f3 f4

            have HF11 := Lib.hid hF11
            obtain ⟨a0, a1, a2, a3, a4, f2, f3, f4⟩ := hF11.cells
            clear hF11
            go_wp2_with fail
            go_loopw [18, 181] (fun sv jv wr => ∃ j : Nat, sv = .float .f64 (sumF me (szs.take j)) ∧ jv = .int .i64 (j : Int) ∧ j ≤ i ∧ w11 = wr) (fun _ jv _ => i - (intOf jv).toNat)
            case atStart => exact ⟨0, rfl, rfl, Nat.zero_le _, rfl⟩
            case round =>
              obtain ⟨j, rfl, rfl, hj, rfl⟩ := hrel

              obtain rfl : j = 0 := by have := Hi0.out; omega
              have hb20 : Fl.F.div 0 (Fl.fl i) = none := by rw [Hi0.out, Fl.fl_zero]; exact div_zero_zero
              obtain ⟨q, hq, hrq⟩ := run_quo_nan (P := Tryz.prog) w11 34 (x := 0) (y := Fl.fl i) hb20
              have hsum : sumF me (szs.take 0) = 0 := rfl
              rw [hsum]
              have hji : ¬ (0 : Int) < (i : Int) := by have := Hi0.out; omega
              have Hq := Lib.hid hq
              clear hq hb20 hsum
              go_upto_region 49 with (first
                | (go_at_call 17; refine (sqrt_nan Hq.out.sqrt _).mono ?_; rintro e w12 ⟨sp, hsp, rfl, rfl⟩; have Hsp := Lib.hid hsp; clear hsp))
              have hF13 := HF11.out.drew.drew.put (j := 4) (v := .float .f64 sp) (sc' := sc) (me' := me) (sp' := sp) (by simp [wasC])
              obtain ⟨w13, hw13⟩ : ∃ y, y = w11.drew.drew.setCell ⟨w.heap.size + 3, 4, none⟩ (.float .f64 sp) := ⟨_, rfl⟩
              rw [← hw13] at hF13
              change Code.wp _ _ _ _ (w11.drew.drew.setCell ⟨w.heap.size + 3, 4, none⟩ (.float .f64 sp))
              rw [← hw13]
              clear hw13
              have hlv : LookV T le szs sc me sp := ⟨Hs0.out, Hs1.out, fun _ => Hme.out, fun h => absurd (List.eq_nil_of_length_eq_zero (by rw [Hsz.out]; exact Hi0.out)) h, fun _ => Hsp.out, fun h => absurd (List.eq_nil_of_length_eq_zero (by rw [Hsz.out]; exact Hi0.out)) h⟩
              have Hlv := Lib.hid hlv
              have Hvar := Lib.hid (show w13.heap[w.heap.size + 1 + 1 + 1]? = some (.cells #[.int .i64 (T : Int), .int .i64 (le : Int), .float .f64 sc, .float .f64 me, .float .f64 sp, vw] 37 (0, 0)) from hF13.var)
              have Hres := Lib.hid hF13.res
              have Hout := Lib.hid (hF13.out rfl #[.int .i64 (T : Int), .int .i64 (le : Int), .float .f64 sc, .float .f64 me, .float .f64 sp, vw])
              have Hone := Lib.hid (show (#[Value.int .i64 (T : Int), .int .i64 (le : Int), .float .f64 sc, .float .f64 me, .float .f64 sp, vw] : Array Value).all (·.oneCell') = true by obtain ⟨o', c', rfl⟩ := row_formG hF13.row; simp [Value.oneCell'])
              clear hlv hF13 a0 a1 a2 a3 a4 f2 f3 f4
              go_wp2_with (first
                | (refine wpList_load_row rfl _ _ rfl (w.heap.size + 1 + 1 + 1) rfl _ _ _ _ Hvar.out Tryz.underlying37 rfl (by kernel_rfl) ?_)
                | (refine wpList_store_row rfl _ _ _ rfl w.heap.size #[.int .i64 (T : Int), .int .i64 (le : Int), .float .f64 sc, .float .f64 me, .float .f64 sp, vw] rfl rfl 37 (wasC 0 0 0 0 0 (.slice none 0 0)) Hres.out (by kernel_rfl) rfl Hone.out ?_))
              refine bodyPost_ret_by (v := .agg #[.int .i64 (T : Int), .int .i64 (le : Int), .float .f64 sc, .float .f64 me, .float .f64 sp, vw]) ?_ rfl ⟨vw, sc, me, sp, by rw [← HTd.out, ← Hled.out]; rfl, by rw [← HTd.out, ← Hled.out, ← Hszd.out]; exact Hlv.out, by rw [← Hwd.out]; have := Hout.out.1; simpa using this, Hout.out.2.1, fun e => Hout.out.2.2 (by rw [List.length_map, Hwd.out]; exact e)⟩
              exact results_cell_row rfl _ _ w.heap.size _ _ _ _ rfl (grow_at Hres.out) Tryz.underlying37 rfl (by kernel_rfl)
          · by_cases hT0 : T = 0
            · have HT0 := Lib.hid hT0
              clear hT0
              have hTi : ¬ (0 : Int) < (T : Int) := by have := HT0.out; omega
              go_upto_region 39 with fail
              have hF10 := HF9.out
              obtain ⟨w10, hw10⟩ : ∃ y, y = w9 := ⟨_, rfl⟩
              rw [← hw10] at hF10 ⊢
              clear hw10 a0 a1 a2 a3 a4 f2 f3 f4
              obtain ⟨sc, hsc0⟩ : ∃ y, y = flOne := ⟨_, rfl⟩
              rw [← hsc0] at hF10
              have hs0 : T = 0 → sc = flOne := fun _ => hsc0
              have hs1 : T ≠ 0 → Fl.F.div (Fl.fl le) (Fl.fl T) = some sc := fun h => absurd HT0.out h
              clear hsc0

              have Hs0 := Lib.hid hs0
              have Hs1 := Lib.hid hs1
              have HF10 := Lib.hid hF10
              obtain ⟨a0, a1, a2, a3, a4, f2, f3, f4⟩ := hF10.cells
              clear hs0 hs1 hF10 hTi

              obtain ⟨me, hme, hme2⟩ := Fl.div_ok (Fl.fl_le T) (Fl.fl_rv (n := i) (by omega)).2 (Fl.fl_pos hi0)
              have hrm := fun W => run_float_arith (P := Tryz.prog) W .quo 34 .f64 (Fl.fl T) (Fl.fl i) me hme
              have Hme := Lib.hid hme
              have Hme2 := Lib.hid hme2
              clear hme hme2
              go_upto_region 41 with fail
              have hF11 := HF10.out.put (j := 3) (v := .float .f64 me) (sc' := sc) (me' := me) (sp' := 0) (by simp [wasC])
              obtain ⟨w11, hw11⟩ : ∃ y, y = w10.setCell ⟨w.heap.size + 3, 3, none⟩ (.float .f64 me) := ⟨_, rfl⟩
              rw [← hw11] at hF11
              change Code.wp _ _ _ _ (w10.setCell ⟨w.heap.size + 3, 3, none⟩ (.float .f64 me))
              rw [← hw11]
              clear hw11 hrm a0 a1 a2 a3 a4 f2 f3 f4

              have HF11 := Lib.hid hF11
              obtain ⟨a0, a1, a2, a3, a4, f2, f3, f4⟩ := hF11.cells
              clear hF11
              go_wp2_with fail
              go_loopw [18, 181] (fun sv jv wr => ∃ j : Nat, sv = .float .f64 (sumF me (szs.take j)) ∧ jv = .int .i64 (j : Int) ∧ j ≤ i ∧ w11 = wr) (fun _ jv _ => i - (intOf jv).toNat)
              case atStart => exact ⟨0, rfl, rfl, Nat.zero_le _, rfl⟩
              case round =>
                obtain ⟨j, rfl, rfl, hj, rfl⟩ := hrel

                by_cases hji : j < i
                · obtain ⟨x, hx⟩ : ∃ x, szs[j]? = some x := ⟨_, List.getElem?_eq_getElem (by rw [Hsz.out]; exact hji)⟩
                  have hxs : x ≤ 1048576 := Hsm.out x (List.mem_of_getElem? hx)
                  have hcx := HF11.out.size hx
                  have hsle : sumF me (szs.take j) ≤ Fl.INF := sumF_le Hme2.out _ fun y hy => by have := Hsm.out y (List.mem_of_mem_take hy); omega
                  obtain ⟨s1, s2, s3, _⟩ := step_ok Hme2.out (by omega : x < 9007199254740992) hsle
                  have r1 := fun W => run_float_arith (P := Tryz.prog) W .sub 34 .f64 (Fl.fl x) me _ s1
                  have r2 := fun W => run_float_arith (P := Tryz.prog) W .mul 34 .f64 (dF me x) (dF me x) _ s2
                  have r3 := fun W => run_float_arith (P := Tryz.prog) W .add 34 .f64 (sumF me (szs.take j)) (qF me x) _ s3
                  have hstep : sumStep me (sumF me (szs.take j)) x = sumF me (szs.take (j + 1)) := by rw [← gtake hx, sumF_snoc]
                  rw [hstep] at r3
                  have hjii : (j : Int) < (i : Int) := by omega
                  clear s1 s2 s3 hx hstep hsle hxs
                  generalize sumF me (szs.take j) = sj at *
                  generalize hsn : sumF me (szs.take (j + 1)) = sn at *
                  have Hsn := Lib.hid hsn
                  clear hsn
                  go_wp2_with fail
                  go_roundw
                  case rel => exact ⟨j + 1, by rw [Hsn.out], by go_num, by omega, by trivial⟩
                  case measure => simp [intOf]; omega
                · obtain rfl : j = i := by omega
                  have htk : szs.take j = szs := by rw [← Hsz.out, List.take_length]
                  rw [htk]
                  have hsle : sumF me szs ≤ Fl.INF := sumF_le Hme2.out _ fun y hy => by have := Hsm.out y hy; omega
                  obtain ⟨q, hq, hq2⟩ := Fl.div_ok hsle (Fl.fl_rv (n := j) (by omega)).2 (Fl.fl_pos hi0)
                  obtain ⟨sp, hsp, _⟩ := Fl.sqrt_ok hq2
                  generalize hsm : sumF me szs = sm at *
                  have hrq := fun W => run_float_arith (P := Tryz.prog) W .quo 34 .f64 sm (Fl.fl j) q hq
                  have Hq := Lib.hid hq
                  have Hsp := Lib.hid hsp
                  have Hsmm := Lib.hid hsm
                  have hjii : ¬ (j : Int) < (j : Int) := by omega
                  clear hq hq2 hsp hsm hsle htk
                  go_upto_region 49 with (first
                    | (go_at_call 17; refine (sqrt_some Hsp.out _).mono ?_; rintro e w12 ⟨rfl, rfl⟩))
                  have hF13 := HF11.out.put (j := 4) (v := .float .f64 sp) (sc' := sc) (me' := me) (sp' := sp) (by simp [wasC])
                  obtain ⟨w13, hw13⟩ : ∃ y, y = w11.setCell ⟨w.heap.size + 3, 4, none⟩ (.float .f64 sp) := ⟨_, rfl⟩
                  rw [← hw13] at hF13
                  change Code.wp _ _ _ _ (w11.setCell ⟨w.heap.size + 3, 4, none⟩ (.float .f64 sp))
                  rw [← hw13]
                  clear hw13
                  have hlv : LookV T le szs sc me sp := ⟨Hs0.out, Hs1.out, fun h => absurd (by rw [← Hsz.out, h]; rfl) hi0, fun _ => by rw [Hsz.out]; exact Hme.out, fun h => absurd (by rw [← Hsz.out, h]; rfl) hi0, fun _ => ⟨q, by rw [Hsz.out, Hsmm.out]; exact Hq.out, Hsp.out⟩⟩
                  have Hlv := Lib.hid hlv
                  have Hvar := Lib.hid (show w13.heap[w.heap.size + 1 + 1 + 1]? = some (.cells #[.int .i64 (T : Int), .int .i64 (le : Int), .float .f64 sc, .float .f64 me, .float .f64 sp, vw] 37 (0, 0)) from hF13.var)
                  have Hres := Lib.hid hF13.res
                  have Hout := Lib.hid (hF13.out rfl #[.int .i64 (T : Int), .int .i64 (le : Int), .float .f64 sc, .float .f64 me, .float .f64 sp, vw])
                  have Hone := Lib.hid (show (#[Value.int .i64 (T : Int), .int .i64 (le : Int), .float .f64 sc, .float .f64 me, .float .f64 sp, vw] : Array Value).all (·.oneCell') = true by obtain ⟨o', c', rfl⟩ := row_formG hF13.row; simp [Value.oneCell'])
                  clear hlv hF13 a0 a1 a2 a3 a4 f2 f3 f4
                  go_wp2_with (first
                    | (refine wpList_load_row rfl _ _ rfl (w.heap.size + 1 + 1 + 1) rfl _ _ _ _ Hvar.out Tryz.underlying37 rfl (by kernel_rfl) ?_)
                    | (refine wpList_store_row rfl _ _ _ rfl w.heap.size #[.int .i64 (T : Int), .int .i64 (le : Int), .float .f64 sc, .float .f64 me, .float .f64 sp, vw] rfl rfl 37 (wasC 0 0 0 0 0 (.slice none 0 0)) Hres.out (by kernel_rfl) rfl Hone.out ?_))
                  refine bodyPost_ret_by (v := .agg #[.int .i64 (T : Int), .int .i64 (le : Int), .float .f64 sc, .float .f64 me, .float .f64 sp, vw]) ?_ rfl ⟨vw, sc, me, sp, by rw [← HTd.out, ← Hled.out]; rfl, by rw [← HTd.out, ← Hled.out, ← Hszd.out]; exact Hlv.out, by rw [← Hwd.out]; have := Hout.out.1; simpa using this, Hout.out.2.1, fun e => Hout.out.2.2 (by rw [List.length_map, Hwd.out]; exact e)⟩
                  exact results_cell_row rfl _ _ w.heap.size _ _ _ _ rfl (grow_at Hres.out) Tryz.underlying37 rfl (by kernel_rfl)
            · skip
              obtain ⟨sc, hsc, hsc2⟩ := Fl.div_ok (Fl.fl_le le) (Fl.fl_rv (n := T) (by omega)).2 (Fl.fl_pos hT0)
              have hrq := fun W => run_float_arith (P := Tryz.prog) W .quo 34 .f64 (Fl.fl le) (Fl.fl T) sc hsc
              have Hsc := Lib.hid hsc
              have hTi : (0 : Int) < (T : Int) := by omega
              clear hsc hsc2
              go_upto_region 39 with fail
              have hF10 := HF9.out.put (j := 2) (v := .float .f64 sc) (sc' := sc) (me' := 0) (sp' := 0) (by simp [wasC])
              obtain ⟨w10, hw10⟩ : ∃ y, y = w9.setCell ⟨w.heap.size + 3, 2, none⟩ (.float .f64 sc) := ⟨_, rfl⟩
              rw [← hw10] at hF10
              change Code.wp _ _ _ _ (w9.setCell ⟨w.heap.size + 3, 2, none⟩ (.float .f64 sc))
              rw [← hw10]
              clear hw10 hrq a0 a1 a2 a3 a4 f2 f3 f4
              have hs0 : T = 0 → sc = flOne := fun h => absurd h hT0
              have hs1 : T ≠ 0 → Fl.F.div (Fl.fl le) (Fl.fl T) = some sc := fun _ => Hsc.out

              have Hs0 := Lib.hid hs0
              have Hs1 := Lib.hid hs1
              have HF10 := Lib.hid hF10
              obtain ⟨a0, a1, a2, a3, a4, f2, f3, f4⟩ := hF10.cells
              clear hs0 hs1 hF10 hTi

              obtain ⟨me, hme, hme2⟩ := Fl.div_ok (Fl.fl_le T) (Fl.fl_rv (n := i) (by omega)).2 (Fl.fl_pos hi0)
              have hrm := fun W => run_float_arith (P := Tryz.prog) W .quo 34 .f64 (Fl.fl T) (Fl.fl i) me hme
              have Hme := Lib.hid hme
              have Hme2 := Lib.hid hme2
              clear hme hme2
              go_upto_region 41 with fail
              have hF11 := HF10.out.put (j := 3) (v := .float .f64 me) (sc' := sc) (me' := me) (sp' := 0) (by simp [wasC])
              obtain ⟨w11, hw11⟩ : ∃ y, y = w10.setCell ⟨w.heap.size + 3, 3, none⟩ (.float .f64 me) := ⟨_, rfl⟩
              rw [← hw11] at hF11
              change Code.wp _ _ _ _ (w10.setCell ⟨w.heap.size + 3, 3, none⟩ (.float .f64 me))
              rw [← hw11]
              clear hw11 hrm a0 a1 a2 a3 a4 f2 f3 f4

              have HF11 := Lib.hid hF11
              obtain ⟨a0, a1, a2, a3, a4, f2, f3, f4⟩ := hF11.cells
              clear hF11
              go_wp2_with fail
              go_loopw [18, 181] (fun sv jv wr => ∃ j : Nat, sv = .float .f64 (sumF me (szs.take j)) ∧ jv = .int .i64 (j : Int) ∧ j ≤ i ∧ w11 = wr) (fun _ jv _ => i - (intOf jv).toNat)
              case atStart => exact ⟨0, rfl, rfl, Nat.zero_le _, rfl⟩
              case round =>
                obtain ⟨j, rfl, rfl, hj, rfl⟩ := hrel

                by_cases hji : j < i
                · obtain ⟨x, hx⟩ : ∃ x, szs[j]? = some x := ⟨_, List.getElem?_eq_getElem (by rw [Hsz.out]; exact hji)⟩
                  have hxs : x ≤ 1048576 := Hsm.out x (List.mem_of_getElem? hx)
                  have hcx := HF11.out.size hx
                  have hsle : sumF me (szs.take j) ≤ Fl.INF := sumF_le Hme2.out _ fun y hy => by have := Hsm.out y (List.mem_of_mem_take hy); omega
                  obtain ⟨s1, s2, s3, _⟩ := step_ok Hme2.out (by omega : x < 9007199254740992) hsle
                  have r1 := fun W => run_float_arith (P := Tryz.prog) W .sub 34 .f64 (Fl.fl x) me _ s1
                  have r2 := fun W => run_float_arith (P := Tryz.prog) W .mul 34 .f64 (dF me x) (dF me x) _ s2
                  have r3 := fun W => run_float_arith (P := Tryz.prog) W .add 34 .f64 (sumF me (szs.take j)) (qF me x) _ s3
                  have hstep : sumStep me (sumF me (szs.take j)) x = sumF me (szs.take (j + 1)) := by rw [← gtake hx, sumF_snoc]
                  rw [hstep] at r3
                  have hjii : (j : Int) < (i : Int) := by omega
                  clear s1 s2 s3 hx hstep hsle hxs
                  generalize sumF me (szs.take j) = sj at *
                  generalize hsn : sumF me (szs.take (j + 1)) = sn at *
                  have Hsn := Lib.hid hsn
                  clear hsn
                  go_wp2_with fail
                  go_roundw
                  case rel => exact ⟨j + 1, by rw [Hsn.out], by go_num, by omega, by trivial⟩
                  case measure => simp [intOf]; omega
                · obtain rfl : j = i := by omega
                  have htk : szs.take j = szs := by rw [← Hsz.out, List.take_length]
                  rw [htk]
                  have hsle : sumF me szs ≤ Fl.INF := sumF_le Hme2.out _ fun y hy => by have := Hsm.out y hy; omega
                  obtain ⟨q, hq, hq2⟩ := Fl.div_ok hsle (Fl.fl_rv (n := j) (by omega)).2 (Fl.fl_pos hi0)
                  obtain ⟨sp, hsp, _⟩ := Fl.sqrt_ok hq2
                  generalize hsm : sumF me szs = sm at *
                  have hrq := fun W => run_float_arith (P := Tryz.prog) W .quo 34 .f64 sm (Fl.fl j) q hq
                  have Hq := Lib.hid hq
                  have Hsp := Lib.hid hsp
                  have Hsmm := Lib.hid hsm
                  have hjii : ¬ (j : Int) < (j : Int) := by omega
                  clear hq hq2 hsp hsm hsle htk
                  go_upto_region 49 with (first
                    | (go_at_call 17; refine (sqrt_some Hsp.out _).mono ?_; rintro e w12 ⟨rfl, rfl⟩))
                  have hF13 := HF11.out.put (j := 4) (v := .float .f64 sp) (sc' := sc) (me' := me) (sp' := sp) (by simp [wasC])
                  obtain ⟨w13, hw13⟩ : ∃ y, y = w11.setCell ⟨w.heap.size + 3, 4, none⟩ (.float .f64 sp) := ⟨_, rfl⟩
                  rw [← hw13] at hF13
                  change Code.wp _ _ _ _ (w11.setCell ⟨w.heap.size + 3, 4, none⟩ (.float .f64 sp))
                  rw [← hw13]
                  clear hw13
                  have hlv : LookV T le szs sc me sp := ⟨Hs0.out, Hs1.out, fun h => absurd (by rw [← Hsz.out, h]; rfl) hi0, fun _ => by rw [Hsz.out]; exact Hme.out, fun h => absurd (by rw [← Hsz.out, h]; rfl) hi0, fun _ => ⟨q, by rw [Hsz.out, Hsmm.out]; exact Hq.out, Hsp.out⟩⟩
                  have Hlv := Lib.hid hlv
                  have Hvar := Lib.hid (show w13.heap[w.heap.size + 1 + 1 + 1]? = some (.cells #[.int .i64 (T : Int), .int .i64 (le : Int), .float .f64 sc, .float .f64 me, .float .f64 sp, vw] 37 (0, 0)) from hF13.var)
                  have Hres := Lib.hid hF13.res
                  have Hout := Lib.hid (hF13.out rfl #[.int .i64 (T : Int), .int .i64 (le : Int), .float .f64 sc, .float .f64 me, .float .f64 sp, vw])
                  have Hone := Lib.hid (show (#[Value.int .i64 (T : Int), .int .i64 (le : Int), .float .f64 sc, .float .f64 me, .float .f64 sp, vw] : Array Value).all (·.oneCell') = true by obtain ⟨o', c', rfl⟩ := row_formG hF13.row; simp [Value.oneCell'])
                  clear hlv hF13 a0 a1 a2 a3 a4 f2 f3 f4
                  go_wp2_with (first
                    | (refine wpList_load_row rfl _ _ rfl (w.heap.size + 1 + 1 + 1) rfl _ _ _ _ Hvar.out Tryz.underlying37 rfl (by kernel_rfl) ?_)
                    | (refine wpList_store_row rfl _ _ _ rfl w.heap.size #[.int .i64 (T : Int), .int .i64 (le : Int), .float .f64 sc, .float .f64 me, .float .f64 sp, vw] rfl rfl 37 (wasC 0 0 0 0 0 (.slice none 0 0)) Hres.out (by kernel_rfl) rfl Hone.out ?_))
                  refine bodyPost_ret_by (v := .agg #[.int .i64 (T : Int), .int .i64 (le : Int), .float .f64 sc, .float .f64 me, .float .f64 sp, vw]) ?_ rfl ⟨vw, sc, me, sp, by rw [← HTd.out, ← Hled.out]; rfl, by rw [← HTd.out, ← Hled.out, ← Hszd.out]; exact Hlv.out, by rw [← Hwd.out]; have := Hout.out.1; simpa using this, Hout.out.2.1, fun e => Hout.out.2.2 (by rw [List.length_map, Hwd.out]; exact e)⟩
                  exact results_cell_row rfl _ _ w.heap.size _ _ _ _ rfl (grow_at Hres.out) Tryz.underlying37 rfl (by kernel_rfl)
        · intro x ov kl yd yp w3 cnt3 hkey hlx hv hat hrg3 hlt3 hg3 hs3 hen
          obtain ⟨x', hx1, hkl, hxs⟩ := key_inv hkey
          cases hx1
          subst hkl
          obtain ⟨cc, hf, rfl⟩ := cost_came Hcd.out (y := (yd, yp)) hv hat
          obtain ⟨b, hbq⟩ : ∃ b, b = bl x.data.toList := ⟨_, rfl⟩
          rw [show ptrV (some (bl x.data.toList)) = Value.pointer (some ⟨b, 0, none⟩) by rw [← hbq]; rfl] at hen ⊢
          have hJ3 := HJ.out.passed hg3
          obtain ⟨le, hle⟩ : ∃ x, x = leastV (getM (costsM (flatC LL))) V := ⟨_, rfl⟩
          rw [← hle] at hJ3
          have hmax := leastV_le HS.out hf hlx
          rw [← hle] at hmax
          have htt := Ht.out
          have hw1 : IntKind.i64.wrap ((le : Int) + (cc.now : Int)) = (le : Int) + (cc.now : Int) := by rw [IntKind.wrap_i64]; omega
          have hall : cc.all ≤ 1048576 := by
            have h1 := costs_get x.data.toList (flatC LL)
            rw [hf] at h1
            unfold costF at h1
            split at h1
            · cases h1
            · injection h1 with h1
              have h3 := allF_le (flatC LL) x.data.toList
              subst h1
              simp only
              omega
          clear hmax htt
          have factsAt : ∀ (W : World) (m : Nat), SumJ w w0 W w.heap.size i w0.heap.size bl (getM (costsM (flatC LL))) (totalR (flatC LL)) (LL.map sizeC) m vw (lostV (getM (costsM (flatC LL))) V) →
              W.cell? ⟨b, 0, none⟩ = some (.int .i64 (cc.t : Int)) ∧ W.cell? ⟨b, 1, none⟩ = some (.int .i64 (cc.all : Int)) ∧ W.cell? ⟨b, 2, none⟩ = some (.int .i64 (cc.now : Int)) ∧ W.cell? ⟨w.heap.size + 1 + 1 + 1, 1, none⟩ = some (.int .i64 (m : Int)) ∧ W.cell? ⟨w.heap.size + 1 + 1 + 1, 5, none⟩ = some vw ∧ W.frozen? ⟨w.heap.size + 1 + 1 + 1, 1, none⟩ = false ∧ W.frozen? ⟨w.heap.size + 1 + 1 + 1, 5, none⟩ = false := fun W m hW => by
            obtain ⟨a1, a2, a3, _⟩ := cost_cell (hbq ▸ (hW.obj _ _ hf).1)
            have hv := hW.var
            unfold wasObj at hv
            exact ⟨a1, a2, a3, block_cell (b := w.heap.size + 1 + 1 + 1) hv rfl, block_cell (b := w.heap.size + 1 + 1 + 1) hv rfl, block_frozen (b := w.heap.size + 1 + 1 + 1) hv 1, block_frozen (b := w.heap.size + 1 + 1 + 1) hv 5⟩
          have HF := Lib.hid factsAt
          have HJ3 := Lib.hid hJ3
          have Hf := Lib.hid hf
          have Hlx := Lib.hid hlx
          have Hle := Lib.hid hle
          have Hr3 := Lib.hid hrg3
          have Hbq := Lib.hid hbq
          clear factsAt hJ3 hf hlx hv hat hkey hle hg3 hrg3 hbq
          go_wp2_with fail
          refine gregion_tail 8 (by kernel_rfl) (by kernel_rfl) ?_
          intro w4 hw4
          have hJ4 : SumJ w w0 w4 w.heap.size i w0.heap.size bl (getM (costsM (flatC LL))) (totalR (flatC LL)) (LL.map sizeC) le vw (lostV (getM (costsM (flatC LL))) V) := by rw [hw4]; exact HJ3.out.drew
          have hg4 : w3.grownBy w4 none := by rw [hw4]; exact ⟨rfl, rfl, rfl, Nat.le_refl _, fun _ _ _ => rfl⟩
          clear hw4
          obtain ⟨x0, x1, x2, x3, x5, x6, x7⟩ := HF.out w4 le hJ4
          have HJ4 := Lib.hid hJ4
          have Hg4 := Lib.hid hg4
          clear hJ4 hg4
          simp only [List.take_succ_cons, List.take_zero, List.drop_succ_cons, List.drop_zero]
          repeat still_step
          refine wpStill_nil ?_
          go_wp2_with fail
          have hJ5 := HJ4.out.least cc.now
          obtain ⟨w5, hw5⟩ : ∃ y, y = w4.setCell ⟨w.heap.size + 3, 1, none⟩ (.int .i64 ((le : Int) + (cc.now : Int))) := ⟨_, rfl⟩
          rw [← hw5] at hJ5
          change Code.wp _ _ _ _ (w4.setCell ⟨w.heap.size + 3, 1, none⟩ (.int .i64 ((le : Int) + (cc.now : Int))))
          rw [← hw5]
          have hk5 : ∀ k, k ≠ w.heap.size + 3 → w5.heap[k]? = w4.heap[k]? := fun k hk => by rw [hw5]; exact Below.heap_setCell _ _ _ _ hk
          have hr5 : w5.ranges Tryz.prog 9 ptrE (w.heap.size + 1) w0.heap.size N D (fun z => left z && !z.sameKey (.string x.data.toList)) cnt3 := by
            have h4 := Hr3.out.kept Hg4.out (by simp) (by simp)
            have h5 := hJ5.b4
            exact ranges_blocks h4 (hk5 _ (by omega)) (hk5 _ (by omega))
          clear hw5 hk5 x0 x1 x2 x3 x5 x6 x7 hw1
          have HJ5 := Lib.hid hJ5
          have Hr5 := Lib.hid hr5
          have hS5 := HS.out.step Hf.out Hlx.out
          have hle5 := leastV_snoc (V := V) Hf.out
          have hlo5 := lostV_snoc (V := V) Hf.out
          rw [← Hle.out] at hle5
          have HS5 := Lib.hid hS5
          have Hle5 := Lib.hid hle5
          clear hJ5 hr5 hS5 hle5
          refine gregion_named (by kernel_rfl) (by kernel_rfl) ?_
          intro w6 hw6
          have hJ6 : SumJ w w0 w6 w.heap.size i w0.heap.size bl (getM (costsM (flatC LL))) (totalR (flatC LL)) (LL.map sizeC) (le + cc.now) vw (lostV (getM (costsM (flatC LL))) V) := by rw [hw6]; exact HJ5.out.drew
          have hr6 : w6.ranges Tryz.prog 9 ptrE (w.heap.size + 1) w0.heap.size N D (fun z => left z && !z.sameKey (.string x.data.toList)) cnt3 := by rw [hw6]; exact Hr5.out
          clear hw6
          obtain ⟨x0, x1, x2, x3, x5, x6, x7⟩ := HF.out w6 _ hJ6
          have HJ6 := Lib.hid hJ6
          have Hr6 := Lib.hid hr6
          clear hJ6 hr6
          by_cases hlt : cc.now < cc.all
          · rw [if_pos hlt] at hlo5
            have Hlo5 := Lib.hid hlo5
            have hlti : (cc.now : Int) < (cc.all : Int) := by omega
            have Hlt := Lib.hid hlt
            clear hlo5 hlt
            repeat still_step
            refine wpStill_nil ?_
            go_wp2_with fail
            have hJ7 := HJ6.out.drew
            have hw2 : IntKind.i64.wrap ((cc.all : Int) - (cc.now : Int)) = ((cc.all - cc.now : Nat) : Int) := by rw [IntKind.wrap_i64]; have := Hlt.out; omega
            have HJ7 := Lib.hid hJ7
            have hrl := HJ7.out.row
            have hlen : (lostV (getM (costsM (flatC LL))) V).length ≤ 1048576 := Nat.le_trans (lostV_le _ _) (Nat.le_trans (SeenV.le HS.out) Hm.out)
            obtain ⟨R, hR⟩ : ∃ R, R = lostV (getM (costsM (flatC LL))) V := ⟨_, rfl⟩
            rw [← hR] at hrl hlen
            have hnew : ∀ j u, [Value.string x, .int .i64 (cc.t : Int), .int .i64 ((cc.all - cc.now : Nat) : Int)][j]? = some u → (w6.drew.alloc (.cells #[.string x, .int .i64 (cc.t : Int), .int .i64 ((cc.all - cc.now : Nat) : Int)] 55)).cell? ((⟨w6.heap.size, 0, none⟩ : Addr).add j) = some u := item_cells (World.alloc_heap_new w6.drew _)
            have Hrl := Lib.hid hrl
            have Hnew := Lib.hid hnew
            have HR := Lib.hid hR
            have hr1 : w0.heap.size < w6.heap.size := HJ7.out.r1
            have Hr1 := Lib.hid hr1
            have hv6 : w.heap.size + 1 + 1 + 1 < w6.heap.size := heap_lt HJ7.out.var
            have hb6 : b < w6.heap.size := by rw [Hbq.out]; exact heap_lt (HJ7.out.obj _ _ Hf.out).1
            clear hrl hnew hR hr1 hJ7 hsf hmk hmm
            have fin : ∀ (w8 : World) (o8 : Option Addr) (c8 : Nat), w8.ownsRow (w0.heap.size + 1) 55 3 (.slice o8 (R.length + 1) c8) (R.length + 1) (R.flatMap lostC ++ [Value.string x, .int .i64 (cc.t : Int), .int .i64 ((cc.all - cc.now : Nat) : Int)]) →
                (w6.drew.alloc (.cells #[.string x, .int .i64 (cc.t : Int), .int .i64 ((cc.all - cc.now : Nat) : Int)] 55)).grownBy w8 vw.ownBlock →
                (∃ (left : Lit → Bool) (cnt : Nat) (V : List (List UInt8)) (vw : Value), (w8.setCell ⟨w.heap.size + 1 + 1 + 1, 5, none⟩ (.slice o8 (R.length + 1) c8)).ranges Tryz.prog 9 ptrE (w.heap.size + 1) w0.heap.size N D left cnt ∧ SeenV (getM (costsM (flatC LL))) left V ∧ SumJ w w0 (w8.setCell ⟨w.heap.size + 1 + 1 + 1, 5, none⟩ (.slice o8 (R.length + 1) c8)) w.heap.size i w0.heap.size bl (getM (costsM (flatC LL))) (totalR (flatC LL)) (LL.map sizeC) (leastV (getM (costsM (flatC LL))) V) vw (lostV (getM (costsM (flatC LL))) V)) ∧
                (w8.setCell ⟨w.heap.size + 1 + 1 + 1, 5, none⟩ (.slice o8 (R.length + 1) c8)).rangeLeft (w.heap.size + 1) w0.heap.size < wr.rangeLeft (w.heap.size + 1) w0.heap.size := fun w8 o8 c8 hown hgrow => by
              obtain ⟨_, _, hk8⟩ := HJ7.out.appCell hgrow
              have hJ8 := HJ7.out.app (x := ⟨x, cc.t, cc.all - cc.now⟩) _ (HR.out ▸ hown) hgrow
              have hx : (⟨bs x.data.toList, cc.t, cc.all - cc.now⟩ : LostB) = ⟨x, cc.t, cc.all - cc.now⟩ := by rw [bs_of]
              have b4 := HJ7.out.b4
              have r1 := HJ7.out.r1
              have hrr := ranges_blocks (w' := w8.setCell ⟨w.heap.size + 1 + 1 + 1, 5, none⟩ (.slice o8 (R.length + 1) c8)) Hr6.out ((Below.heap_setCell _ _ _ _ (by show w.heap.size + 1 ≠ w.heap.size + 1 + 1 + 1; omega)).trans (hk8 _ (by omega) (by omega))) ((Below.heap_setCell _ _ _ _ (by show w0.heap.size ≠ w.heap.size + 1 + 1 + 1; omega)).trans (hk8 _ (Nat.le_refl _) r1))
              refine ⟨⟨_, cnt3, _, .slice o8 (R.length + 1) c8, hrr, HS5.out, ?_⟩, by rw [hrr.left_eq, hrg.left_eq]; exact hlt3⟩
              rw [Hle5.out, Hlo5.out, hx, HR.out]
              exact hJ8
            have HFin := Lib.hid fin
            clear fin hrg
            go_region_law (first
              | (refine gstep_append_own (by rfl) _ _ 35 (by rfl) (w0.heap.size + 1) 55 iL _ 3 32 Tryz.underlying35 HiL.out HL0.out HL1.out HL2.out rfl (by decide) vw R.length (R.flatMap lostC) (by rfl) (Hrl.out.alloc _) ⟨w6.heap.size, 0, none⟩ 1 1 [Value.string x, .int .i64 (cc.t : Int), .int .i64 ((cc.all - cc.now : Nat) : Int)] (by rfl) rfl Hnew.out (by simp [Value.oneCell']) (by unfold maxLen; omega) (by omega) (by have := Hr1.out; simp; omega) ?_
                 intro v' w8 hown' hgrow _
                 obtain ⟨x5', x7', hk8⟩ := HJ7.out.appCell hgrow
                 have y5 : w8.cell? ⟨w.heap.size + 1 + 1 + 1, 5, none⟩ = some vw := x5'
                 have y7 : w8.frozen? ⟨w.heap.size + 1 + 1 + 1, 5, none⟩ = false := x7'
                 obtain ⟨o8, c8, rfl⟩ := row_formG hown'
                 have Hown := Lib.hid hown'
                 have Hgrow := Lib.hid hgrow
                 have Hk8 := Lib.hid hk8
                 clear hown' hgrow hk8 x5' x7'))
            all_goals go_wp2_with fail
            all_goals exact HFin.out _ _ _ Hown.out Hgrow.out
          · rw [if_neg hlt, List.append_nil] at hlo5
            have Hlo5 := Lib.hid hlo5
            have hlti : ¬ (cc.now : Int) < (cc.all : Int) := by omega
            clear hlo5 hlt
            repeat still_step
            refine wpStill_nil ?_
            go_wp2_with fail
            go_roundw
            case rel => exact ⟨_, cnt3, _, vw, Hr6.out, HS5.out, by rw [Hle5.out, Hlo5.out]; exact HJ6.out⟩
            case measure => rw [Hr6.out.left_eq, hrg.left_eq]; exact hlt3
theorem look_any (v : Value) (LL : List (List WChg)) (w : World) (h : DeltasAt w v LL) (hn : LL.length ≤ 1048576) (hm : (flatC LL).length ≤ 1048576) (ht : totalR (flatC LL) ≤ 1048576) (hp : ∀ L ∈ LL, ∀ c ∈ L, c.p.size ≤ 1048576) :
    Calls Tryz.prog 6 #[v] w fun r w' => ∃ (vw : Value) (sc me sp : Nat), r = .returned (.agg (wasC (totalR (flatC LL)) (leastR (flatC LL)) sc me sp vw)) ∧ LookV (totalR (flatC LL)) (leastR (flatC LL)) (LL.map sizeC) sc me sp ∧
      w'.ownsRow w.heap.size 55 3 vw (worstR (flatC LL)).length (((worstR (flatC LL)).map LostN.by).flatMap lostC) ∧ Below w.heap.size w w' :=
  (look_anyN v LL w h hn hm ht hp).mono fun r w' ⟨vw, sc, me, sp, h1, h2, h3, h4, _⟩ => ⟨vw, sc, me, sp, h1, h2, h3, h4⟩
end Go.Proofs.YtfanfkogogijpaaGreatDoor
