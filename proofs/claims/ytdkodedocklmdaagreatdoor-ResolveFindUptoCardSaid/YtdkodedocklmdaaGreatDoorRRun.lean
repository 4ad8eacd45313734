/- The contract of a walk's run. -/
import Derived.Test.YtdkodedocklmdaaGreatDoorRRunA
import Derived.Test.YtdkodedocklmdaaGreatDoorTItself
set_option linter.unusedSimpArgs false
set_option linter.unusedVariables false
namespace Go.Proofs.YtdkodedocklmdaaGreatDoor
open Go.RowKit Go.Shelf Go.Maps
open Go.Lib hiding intOf size_eq
set_option maxRecDepth 100000 in
set_option maxHeartbeats 8000000 in
theorem run_any {base Wk T rt rm tb : Nat} {nd : List Nd} {keep : Bool} {sv : Value} {R : Except Nat (List UInt8 × List (List UInt8))} {w0 : World} (w : World) (hgood : Good (ents nd)) (h : RunI w0 base Wk T rt rm tb nd keep sv R w) :
    Calls Tryz.prog 78 #[.pointer (some ⟨Wk, 0, none⟩)] w fun r w' => RunR w0 base sv R r w' := by
  have Hi := Lib.hid h
  have Hgood := Lib.hid hgood
  clear h hgood
  go_enter Tryz.func78, Tryz.ntmps78
  go_wp2
  go_loopw [4, 5, 6, 7] (fun _ _ _ _ wr => RunI w0 base Wk T rt rm tb nd keep sv R wr) (fun _ _ _ _ wr => walkMeas Wk wr)
  case atStart => exact Hi.out
  case round =>
    obtain ⟨a, left, hops, tr, F, o, cap, hW, ha, hl, hh, hN, hR⟩ := hrel
    clear Hi
    obtain ⟨c0, c1, c2, c3, _, _, _, _⟩ := walk_cells hW.blk
    have f1 := walk_frozen hW.blk 1
    have f2 := walk_frozen hW.blk 2
    cases left with
    | nil =>
      have Hw := Lib.hid hW
      have HR := Lib.hid (hR.symm.trans runF_nil)
      clear hW hR
      go_wp2
      go_ret2
      refine ⟨Hw.out.bel, ?_⟩
      rw [HR.out]
      exact ⟨rfl, F, Hw.out.st⟩
    | cons c left =>
      obtain ⟨ad, hoa, hca⟩ := hW.la.cell 0 c rfl
      subst hoa
      rw [add_zero, show encS c = .string (bs c) from rfl] at hca
      have hc40 := hl c (List.mem_cons_self ..)
      have hl2 : ∀ x ∈ left, x.length ≤ 1099511627776 := fun x hx => hl x (List.mem_cons_of_mem _ hx)
      rw [needF_cons] at hN
      have hnd := needF_ge left.length hops
      by_cases hcap : cap = 1
      · subst hcap
        have ht := hW.tail
        have e1 : tailO ad 1 = some ad := rfl
        rw [e1] at ht
        rw [show (1 : Nat) - 1 = 0 from rfl] at ht
        obtain ⟨w1, hw1⟩ : ∃ x, x = wr.setCell ⟨Wk, 2, none⟩ (.slice (some ad) left.length 0) := ⟨_, rfl⟩
        rw [← hw1] at ht
        obtain ⟨d0, d1, _, _, _, _, _, _⟩ := walk_cells ht.blk
        have df1 := walk_frozen ht.blk 1
        have Hw := Lib.hid hW
        have Ht := Lib.hid ht
        have HR := Lib.hid hR
        have Hl2 := Lib.hid hl2
        have Hlen := Lib.hid (show tr.length ≤ 1099511627776 by omega)
        have HN := Lib.hid hN
        have Hw1 := Lib.hid hw1
        have Hh := Lib.hid hh
        have Ha := Lib.hid ha
        have Hc := Lib.hid hc40
        have Hge := Lib.hid hnd
        clear hW ht hR hl2 hN hw1 hh ha hc40 hnd hl e1
        by_cases h1 : c = [46]
        · subst h1
          have b1 : ((bs [46]).toList == [46]) = true := eqB_t (by rw [bs_toList])
          have Hnd := Lib.hid (Nat.le_refl (needF left.length hops))
          go_upto_region 4 with fail
          rw [← Hw1.out]
          go_wp2_with (first
          | (go_at_call 112; refine (told_any a _ Ht.out.blk Ht.out.st Ht.out.size Hlen.out).mono ?_; rintro r w5 ⟨rfl, F', hb5, hs5, hf5⟩
             have H5 := Lib.hid (Ht.out.told hb5 hs5 hf5)
             clear hb5 hs5 hf5))
          go_roundw
          case rel => exact ⟨_, _, _, _, _, _, _, H5.out, Ha.out, Hl2.out, Hh.out, by have := HN.out; rw [List.length_append]; simp; omega, by rw [← HR.out, runF_dot]⟩
          case measure =>
            rw [walkMeas_eq H5.out.blk, walkMeas_eq Hw.out.blk, needF_cons]
            have := Hnd.out
            omega
        by_cases h2 : c = [46, 46]
        · subst h2
          have b1 : ((bs [46, 46]).toList == [46]) = false := eqB_f (by rw [bs_toList]; decide)
          have b2 : ((bs [46, 46]).toList == [46, 46]) = true := eqB_t (by rw [bs_toList])
          have hpar := fun W => parent_any (bs a) W (by rw [bs_size]; have := Ha.out; omega)
          rw [bs_toList] at hpar
          have Hpar := Lib.hid hpar
          have Hnd := Lib.hid (Nat.le_refl (needF left.length hops))
          have Ht2 := Lib.hid (Ht.out.setAt (parent a))
          obtain ⟨w2, hw2⟩ : ∃ x, x = w1.setCell ⟨Wk, 1, none⟩ (.string (bs (parent a))) := ⟨_, rfl⟩
          rw [← hw2] at Ht2
          obtain ⟨_, g1, _, _, _, _, _, _⟩ := walk_cells Ht2.out.blk
          have Hw2 := Lib.hid hw2
          clear hpar hw2
          go_upto_region 4 with fail
          rw [← Hw1.out]
          go_upto_region 15 with (go_at_call 67; refine (Hpar.out _).mono ?_; rintro r w5 ⟨rfl, rfl⟩)
          rw [← Hw2.out]
          go_wp2_with (first
          | (go_at_call 112; refine (told_any (parent a) _ Ht2.out.blk Ht2.out.st Ht2.out.size Hlen.out).mono ?_; rintro r w5 ⟨rfl, F', hb5, hs5, hf5⟩
             have H5 := Lib.hid (Ht2.out.told hb5 hs5 hf5)
             clear hb5 hs5 hf5))
          go_roundw
          case rel => exact ⟨_, _, _, _, _, _, _, H5.out, Nat.le_trans (parent_length a) Ha.out, Hl2.out, Hh.out, by have := HN.out; rw [List.length_append]; simp; omega, by rw [← HR.out, runF_up]⟩
          case measure =>
            rw [walkMeas_eq H5.out.blk, walkMeas_eq Hw.out.blk, needF_cons]
            have := Hnd.out
            omega
        have b1 : ((bs c).toList == [46]) = false := eqB_f (by rw [bs_toList]; exact h1)
        have b2 : ((bs c).toList == [46, 46]) = false := eqB_f (by rw [bs_toList]; exact h2)
        have hrn := runF_name Hgood.out (keep := keep) (a := a) (tr := tr) (left := left) Hh.out h1 h2
        rw [HR.out] at hrn
        have hjl := joinP_length a c
        obtain ⟨q, hq⟩ : ∃ q, q = joinP a c := ⟨_, rfl⟩
        rw [← hq] at hrn hjl
        have hjoin := fun W => join_any (bs a) (bs c) W (by rw [bs_size, bs_size]; have := Ha.out; have := Hc.out; omega)
        rw [bs_toList, bs_toList, ← hq] at hjoin
        have hpc := piece_any (bs c) q w1 Ht.out.tree Ht.out.blk Ht.out.la (fun e => Ht.out.out _ rfl (by rw [e]; exact List.mem_cons_self ..)) (by have := Ha.out; have := Hc.out; omega) (by have := HN.out; have := Hge.out; omega) Hh.out
        have Hjoin := Lib.hid hjoin
        have Hpc := Lib.hid hpc
        clear hjoin hpc h1 h2 hjl hq
        cases hpf : pieceF (ents nd) keep a q left hops with
        | error n =>
          have Hn := Lib.hid (errV_pos (pieceF_err hpf))
          rw [hpf] at hrn
          have Hrn := Lib.hid hrn
          have Hpf := Lib.hid hpf
          clear hrn hpf
          go_upto_region 4 with fail
          rw [← Hw1.out]
          go_wp2_with (first
            | (go_at_call 110; refine (Hjoin.out _).mono ?_; rintro r w5 ⟨rfl, rfl⟩)
            | (go_at_call 111; refine Hpc.out.mono ?_; rintro r w3 ⟨hb3, hr3⟩; rw [Hpf.out] at hr3; simp only [] at hr3; rw [Hn.out] at hr3; subst hr3
               have HB3 := Lib.hid hb3
               clear hb3))
          go_ret2
          refine ⟨Ht.out.bel.trans (HB3.out.to_below Ht.out.size (fun k hk => by rw [List.mem_singleton.1 hk]; exact Ht.out.wb)), ?_⟩
          rw [Hrn.out]
          show _ = Ending.returned (.tuple #[.string ⟨#[]⟩, errV n])
          rw [Hn.out]
          rfl
        | ok z =>
          cases z with
          | none =>
            have hqs := pieceF_end Hgood.out hpf
            rw [hpf] at hrn
            have Hrn := Lib.hid hrn
            have Hpf := Lib.hid hpf
            clear hrn hpf hqs
            go_upto_region 4 with fail
            rw [← Hw1.out]
            go_wp2_with (first
              | (go_at_call 110; refine (Hjoin.out _).mono ?_; rintro r w5 ⟨rfl, rfl⟩)
              | (go_at_call 111; refine Hpc.out.mono ?_; rintro r w3 ⟨hb3, hr3⟩; rw [Hpf.out] at hr3; simp only [] at hr3; obtain ⟨rfl, hk3⟩ := hr3
                 have H3 := Lib.hid (Ht.out.piece hb3 hk3 (Ht.out.la.but hb3 (fun b hb2 hx => Ht.out.out b hb2 (by rw [List.mem_singleton.1 hx]; exact List.mem_cons_self ..))) (.inl rfl))
                 clear hb3 hk3)
              | (first
          | (go_at_call 112; refine (told_any q _ H3.out.blk H3.out.st H3.out.size Hlen.out).mono ?_; rintro r w5 ⟨rfl, F', hb5, hs5, hf5⟩
             have H5 := Lib.hid (H3.out.told hb5 hs5 hf5)
             clear hb5 hs5 hf5)))
            go_ret2
            refine ⟨H5.out.bel, ?_⟩
            rw [Hrn.out]
            exact ⟨rfl, _, H5.out.st⟩
          | some z =>
            obtain ⟨a', left', hops'⟩ := z
            obtain ⟨e1, e2, e3, e4⟩ := pieceF_on Hgood.out Hh.out Ha.out (by omega) Hl2.out hpf
            rw [hpf] at hrn
            have Hrn := Lib.hid hrn
            have Hpf := Lib.hid hpf
            have E1 := Lib.hid e1
            have E2 := Lib.hid e2
            have E3 := Lib.hid e3
            have Hnd := Lib.hid e4
            clear hrn hpf e1 e2 e3 e4
            go_upto_region 4 with fail
            rw [← Hw1.out]
            go_wp2_with (first
              | (go_at_call 110; refine (Hjoin.out _).mono ?_; rintro r w5 ⟨rfl, rfl⟩)
              | (go_at_call 111; refine Hpc.out.mono ?_; rintro r w3 ⟨hb3, hr3⟩; rw [Hpf.out] at hr3; simp only [] at hr3; obtain ⟨rfl, o', cap', hk3, hl3, ho3⟩ := hr3
                 have h3 := Ht.out.piece hb3 hk3 hl3 ho3
                 obtain ⟨_, g1, _, _, _, _, _, _⟩ := walk_cells h3.blk
                 have H3 := Lib.hid h3
                 clear hb3 hk3 hl3 ho3 h3)
              | (first
          | (go_at_call 112; refine (told_any a' _ H3.out.blk H3.out.st H3.out.size Hlen.out).mono ?_; rintro r w5 ⟨rfl, F', hb5, hs5, hf5⟩
             have H5 := Lib.hid (H3.out.told hb5 hs5 hf5)
             clear hb5 hs5 hf5)))
            go_roundw
            case rel => exact ⟨_, _, _, _, _, _, _, H5.out, E2.out, E3.out, E1.out, by have := HN.out; have := Hnd.out; rw [List.length_append]; simp; omega, Hrn.out.symm⟩
            case measure =>
              rw [walkMeas_eq H5.out.blk, walkMeas_eq Hw.out.blk, needF_cons]
              have := Hnd.out
              omega
      · skip
        have ht := hW.tail
        have e1 : tailO ad cap = some ⟨ad.block, ad.off + 1, none⟩ := by unfold tailO; rw [if_neg hcap]; rfl
        rw [e1] at ht
        skip
        obtain ⟨w1, hw1⟩ : ∃ x, x = wr.setCell ⟨Wk, 2, none⟩ (.slice (some ⟨ad.block, ad.off + 1, none⟩) left.length (cap - 1)) := ⟨_, rfl⟩
        rw [← hw1] at ht
        obtain ⟨d0, d1, _, _, _, _, _, _⟩ := walk_cells ht.blk
        have df1 := walk_frozen ht.blk 1
        have Hw := Lib.hid hW
        have Ht := Lib.hid ht
        have HR := Lib.hid hR
        have Hl2 := Lib.hid hl2
        have Hlen := Lib.hid (show tr.length ≤ 1099511627776 by omega)
        have HN := Lib.hid hN
        have Hw1 := Lib.hid hw1
        have Hh := Lib.hid hh
        have Ha := Lib.hid ha
        have Hc := Lib.hid hc40
        have Hge := Lib.hid hnd
        clear hW ht hR hl2 hN hw1 hh ha hc40 hnd hl e1
        by_cases h1 : c = [46]
        · subst h1
          have b1 : ((bs [46]).toList == [46]) = true := eqB_t (by rw [bs_toList])
          have Hnd := Lib.hid (Nat.le_refl (needF left.length hops))
          go_upto_region 4 with fail
          rw [← Hw1.out]
          go_wp2_with (first
          | (go_at_call 112; refine (told_any a _ Ht.out.blk Ht.out.st Ht.out.size Hlen.out).mono ?_; rintro r w5 ⟨rfl, F', hb5, hs5, hf5⟩
             have H5 := Lib.hid (Ht.out.told hb5 hs5 hf5)
             clear hb5 hs5 hf5))
          go_roundw
          case rel => exact ⟨_, _, _, _, _, _, _, H5.out, Ha.out, Hl2.out, Hh.out, by have := HN.out; rw [List.length_append]; simp; omega, by rw [← HR.out, runF_dot]⟩
          case measure =>
            rw [walkMeas_eq H5.out.blk, walkMeas_eq Hw.out.blk, needF_cons]
            have := Hnd.out
            omega
        by_cases h2 : c = [46, 46]
        · subst h2
          have b1 : ((bs [46, 46]).toList == [46]) = false := eqB_f (by rw [bs_toList]; decide)
          have b2 : ((bs [46, 46]).toList == [46, 46]) = true := eqB_t (by rw [bs_toList])
          have hpar := fun W => parent_any (bs a) W (by rw [bs_size]; have := Ha.out; omega)
          rw [bs_toList] at hpar
          have Hpar := Lib.hid hpar
          have Hnd := Lib.hid (Nat.le_refl (needF left.length hops))
          have Ht2 := Lib.hid (Ht.out.setAt (parent a))
          obtain ⟨w2, hw2⟩ : ∃ x, x = w1.setCell ⟨Wk, 1, none⟩ (.string (bs (parent a))) := ⟨_, rfl⟩
          rw [← hw2] at Ht2
          obtain ⟨_, g1, _, _, _, _, _, _⟩ := walk_cells Ht2.out.blk
          have Hw2 := Lib.hid hw2
          clear hpar hw2
          go_upto_region 4 with fail
          rw [← Hw1.out]
          go_upto_region 15 with (go_at_call 67; refine (Hpar.out _).mono ?_; rintro r w5 ⟨rfl, rfl⟩)
          rw [← Hw2.out]
          go_wp2_with (first
          | (go_at_call 112; refine (told_any (parent a) _ Ht2.out.blk Ht2.out.st Ht2.out.size Hlen.out).mono ?_; rintro r w5 ⟨rfl, F', hb5, hs5, hf5⟩
             have H5 := Lib.hid (Ht2.out.told hb5 hs5 hf5)
             clear hb5 hs5 hf5))
          go_roundw
          case rel => exact ⟨_, _, _, _, _, _, _, H5.out, Nat.le_trans (parent_length a) Ha.out, Hl2.out, Hh.out, by have := HN.out; rw [List.length_append]; simp; omega, by rw [← HR.out, runF_up]⟩
          case measure =>
            rw [walkMeas_eq H5.out.blk, walkMeas_eq Hw.out.blk, needF_cons]
            have := Hnd.out
            omega
        have b1 : ((bs c).toList == [46]) = false := eqB_f (by rw [bs_toList]; exact h1)
        have b2 : ((bs c).toList == [46, 46]) = false := eqB_f (by rw [bs_toList]; exact h2)
        have hrn := runF_name Hgood.out (keep := keep) (a := a) (tr := tr) (left := left) Hh.out h1 h2
        rw [HR.out] at hrn
        have hjl := joinP_length a c
        obtain ⟨q, hq⟩ : ∃ q, q = joinP a c := ⟨_, rfl⟩
        rw [← hq] at hrn hjl
        have hjoin := fun W => join_any (bs a) (bs c) W (by rw [bs_size, bs_size]; have := Ha.out; have := Hc.out; omega)
        rw [bs_toList, bs_toList, ← hq] at hjoin
        have hpc := piece_any (bs c) q w1 Ht.out.tree Ht.out.blk Ht.out.la (fun e => Ht.out.out _ rfl (by rw [e]; exact List.mem_cons_self ..)) (by have := Ha.out; have := Hc.out; omega) (by have := HN.out; have := Hge.out; omega) Hh.out
        have Hjoin := Lib.hid hjoin
        have Hpc := Lib.hid hpc
        clear hjoin hpc h1 h2 hjl hq
        cases hpf : pieceF (ents nd) keep a q left hops with
        | error n =>
          have Hn := Lib.hid (errV_pos (pieceF_err hpf))
          rw [hpf] at hrn
          have Hrn := Lib.hid hrn
          have Hpf := Lib.hid hpf
          clear hrn hpf
          go_upto_region 4 with fail
          rw [← Hw1.out]
          go_wp2_with (first
            | (go_at_call 110; refine (Hjoin.out _).mono ?_; rintro r w5 ⟨rfl, rfl⟩)
            | (go_at_call 111; refine Hpc.out.mono ?_; rintro r w3 ⟨hb3, hr3⟩; rw [Hpf.out] at hr3; simp only [] at hr3; rw [Hn.out] at hr3; subst hr3
               have HB3 := Lib.hid hb3
               clear hb3))
          go_ret2
          refine ⟨Ht.out.bel.trans (HB3.out.to_below Ht.out.size (fun k hk => by rw [List.mem_singleton.1 hk]; exact Ht.out.wb)), ?_⟩
          rw [Hrn.out]
          show _ = Ending.returned (.tuple #[.string ⟨#[]⟩, errV n])
          rw [Hn.out]
          rfl
        | ok z =>
          cases z with
          | none =>
            have hqs := pieceF_end Hgood.out hpf
            rw [hpf] at hrn
            have Hrn := Lib.hid hrn
            have Hpf := Lib.hid hpf
            clear hrn hpf hqs
            go_upto_region 4 with fail
            rw [← Hw1.out]
            go_wp2_with (first
              | (go_at_call 110; refine (Hjoin.out _).mono ?_; rintro r w5 ⟨rfl, rfl⟩)
              | (go_at_call 111; refine Hpc.out.mono ?_; rintro r w3 ⟨hb3, hr3⟩; rw [Hpf.out] at hr3; simp only [] at hr3; obtain ⟨rfl, hk3⟩ := hr3
                 have H3 := Lib.hid (Ht.out.piece hb3 hk3 (Ht.out.la.but hb3 (fun b hb2 hx => Ht.out.out b hb2 (by rw [List.mem_singleton.1 hx]; exact List.mem_cons_self ..))) (.inl rfl))
                 clear hb3 hk3)
              | (first
          | (go_at_call 112; refine (told_any q _ H3.out.blk H3.out.st H3.out.size Hlen.out).mono ?_; rintro r w5 ⟨rfl, F', hb5, hs5, hf5⟩
             have H5 := Lib.hid (H3.out.told hb5 hs5 hf5)
             clear hb5 hs5 hf5)))
            go_ret2
            refine ⟨H5.out.bel, ?_⟩
            rw [Hrn.out]
            exact ⟨rfl, _, H5.out.st⟩
          | some z =>
            obtain ⟨a', left', hops'⟩ := z
            obtain ⟨e1, e2, e3, e4⟩ := pieceF_on Hgood.out Hh.out Ha.out (by omega) Hl2.out hpf
            rw [hpf] at hrn
            have Hrn := Lib.hid hrn
            have Hpf := Lib.hid hpf
            have E1 := Lib.hid e1
            have E2 := Lib.hid e2
            have E3 := Lib.hid e3
            have Hnd := Lib.hid e4
            clear hrn hpf e1 e2 e3 e4
            go_upto_region 4 with fail
            rw [← Hw1.out]
            go_wp2_with (first
              | (go_at_call 110; refine (Hjoin.out _).mono ?_; rintro r w5 ⟨rfl, rfl⟩)
              | (go_at_call 111; refine Hpc.out.mono ?_; rintro r w3 ⟨hb3, hr3⟩; rw [Hpf.out] at hr3; simp only [] at hr3; obtain ⟨rfl, o', cap', hk3, hl3, ho3⟩ := hr3
                 have h3 := Ht.out.piece hb3 hk3 hl3 ho3
                 obtain ⟨_, g1, _, _, _, _, _, _⟩ := walk_cells h3.blk
                 have H3 := Lib.hid h3
                 clear hb3 hk3 hl3 ho3 h3)
              | (first
          | (go_at_call 112; refine (told_any a' _ H3.out.blk H3.out.st H3.out.size Hlen.out).mono ?_; rintro r w5 ⟨rfl, F', hb5, hs5, hf5⟩
             have H5 := Lib.hid (H3.out.told hb5 hs5 hf5)
             clear hb5 hs5 hf5)))
            go_roundw
            case rel => exact ⟨_, _, _, _, _, _, _, H5.out, E2.out, E3.out, E1.out, by have := HN.out; have := Hnd.out; rw [List.length_append]; simp; omega, Hrn.out.symm⟩
            case measure =>
              rw [walkMeas_eq H5.out.blk, walkMeas_eq Hw.out.blk, needF_cons]
              have := Hnd.out
              omega
end Go.Proofs.YtdkodedocklmdaaGreatDoor
