/- The reference's stays and lost. -/
import Derived.Test.YtebniijkhjnbdaaLRefA
set_option linter.unusedSimpArgs false
set_option linter.unusedVariables false
namespace Go.Proofs.Ytebniijkhjnbdaa
open Go.RowKit Go.Maps
open Go.Lib hiding intOf size_eq
theorem flopW {P : Program} {f : FuncId} {args : Array Value} {w : World} {x : Ending} (h : Calls P f args w fun e w' => e = x ∧ w = w') : Calls P f args w fun e w' => e = x ∧ w' = w :=
  h.mono fun e w' ⟨h1, h2⟩ => ⟨h1, h2.symm⟩
section
variable {P : Program} {ops : Array Oper} {w : World}
theorem still_skipW {Q : Act → Prop} {a : Act} {o : Oper} {rest : List Oper} (hw : Region.wanted o (yielded ops a.tmps) = false) (h : wpStill P ops w Q rest (a.put o.dst undef)) : wpStill P ops w Q (o :: rest) a :=
  wpStill_step fun K hK => by rw [hw]; exact hK _ h
end
/-- does a later change take an earlier one away? -/
def touchW (c x : Cw) : Bool := x.p == c.p || (x.g && belowP x.p c.p)
theorem stays_cons {c x : Cw} {r : List Cw} (h : touchW c x = true) : staysF c (x :: r) = false := by
  unfold staysF
  unfold touchW at h
  simp only [List.all_cons, h]
  simp
theorem stays_next {c x : Cw} {r : List Cw} (h : touchW c x = false) : staysF c (x :: r) = staysF c r := by
  unfold staysF
  unfold touchW at h
  simp only [List.all_cons, h]
  simp
attribute [local irreducible] wpStill
set_option maxRecDepth 100000 in
set_option maxHeartbeats 8000000 in
theorem rstays_any (v : Value) (D : List Chg) (i : Nat) (c : Chg) (w : World) (h : ChgsAt w v D) (hl : D.length ≤ 1048576) (hc : D[i]? = some c) (hp : ∀ x ∈ D, x.p.size ≤ 1048576) :
    Calls Try.prog 21 #[v, .int .i64 (i : Int)] w fun r w' => r = .returned (.bool (staysF (cwOf c) ((D.drop (i + 1)).map cwOf))) ∧ Below w.heap.size w w' := by
  obtain ⟨o, cap, rfl, hlc, hcm⟩ := h.len
  obtain ⟨a, rfl, hab, hcs⟩ := h.get hc
  obtain ⟨n, hn⟩ : ∃ n, n = D.length := ⟨_, rfl⟩
  have hin : i < n := by rw [hn]; exact (List.getElem?_eq_some_iff.1 hc).1
  rw [← hn] at hl hlc ⊢
  obtain ⟨q0, q1, _⟩ := chg_cells hcs
  have h0 : ∀ W, Below w.heap.size w W → W.cell? (a.add (i * 7)) = some (.string c.p) := fun W hW => (hW.cell (p := a.add (i * 7)) (by rw [gadd_block]; exact hab)).trans q0
  have H0 := Lib.hid h0
  have Hd := Lib.hid h
  have Hn := Lib.hid hn
  have Hc := Lib.hid hc
  have Hp := Lib.hid hp
  have hcp := hp c (List.mem_of_getElem? hc)
  clear h hn hc hp h0 hcs q0
  cases hg : c.g
  · rw [hg] at q1
    have hcg : (cwOf c).g = false := hg
    go_enter Try.func21, Try.ntmps21
    go_wp2_with fail
    go_loopw [5] (fun kv wr => ∃ k : Nat, kv = .int .i64 (k : Int) ∧ i + 1 ≤ k ∧ k ≤ n ∧ Hid (staysF (cwOf c) ((D.drop (i + 1)).map cwOf) = staysF (cwOf c) ((D.drop k).map cwOf)) ∧ Hid (Below w.heap.size w wr)) (fun kv _ => n - (intOf kv).toNat)
    case atStart => exact ⟨i + 1, by go_num, Nat.le_refl _, by omega, Lib.hid rfl, Lib.hid (Below.refl _ _)⟩
    case round =>
      obtain ⟨k, rfl, hik, hk, HE, HB⟩ := hrel
      by_cases hlt : k < n
      · obtain ⟨x, hx⟩ : ∃ x, D[k]? = some x := ⟨_, List.getElem?_eq_getElem (by rw [← Hn.out]; exact hlt)⟩
        have hd2 := Hd.out
        rw [← Hn.out] at hd2
        obtain ⟨a2, ha2, hab2, hcs2⟩ := hd2.get hx
        injection ha2 with ha2
        subst ha2
        obtain ⟨p0, p1, _⟩ := chg_cells hcs2
        have hdr : (D.drop k).map cwOf = cwOf x :: (D.drop (k + 1)).map cwOf := by
          rw [List.drop_eq_getElem_cons (by rw [← Hn.out]; exact hlt), List.map_cons]
          have : D[k]'(by rw [← Hn.out]; exact hlt) = x := (List.getElem?_eq_some_iff.1 hx).2
          rw [this]
        have hbz := below_drew HB.out
        have z0 : wr.drew.cell? (a.add (k * 7)) = some (.string x.p) := (hbz.cell (p := a.add (k * 7)) (by rw [gadd_block]; exact hab)).trans p0
        have z1 : wr.drew.cell? ⟨(a.add (k * 7)).block, (a.add (k * 7)).off + 1, none⟩ = some (.bool x.g) := (hbz.cell (p := ⟨(a.add (k * 7)).block, (a.add (k * 7)).off + 1, none⟩) (by show (a.add (k * 7)).block < _; rw [gadd_block]; exact hab)).trans p1
        have z2 := H0.out _ hbz
        have hxp := Hp.out x (List.mem_of_getElem? hx)
        have Hbz := Lib.hid hbz
        have Hdr := Lib.hid hdr
        have hkI : (k : Int) < (n : Int) := by omega
        have hiI : (i : Int) < (n : Int) := by omega
        clear hbz hdr hx hd2 hcs2 p0 p1
        go_upto_region 6 with fail
        refine gregion_named (by kernel_rfl) (by kernel_rfl) ?_
        intro wz hz
        rw [← hz] at z0 z1 z2 Hbz
        clear hz
        cases he : (x.p.toList == c.p.toList)
        · cases hxg : x.g
          · rw [hxg] at z1
            have ht : touchW (cwOf c) (cwOf x) = false := by
              unfold touchW cwOf
              rw [toList_data, toList_data] at he
              simp only [he, hxg]
              rfl
            have HE2 := Lib.hid (HE.out.trans (by rw [Hdr.out, stays_next ht] : _ = staysF (cwOf c) ((D.drop (k + 1)).map cwOf)))
            clear ht
            iterate 18 still_step
            iterate 11 (refine still_skipW (by rfl) ?_; simp only [Act.put, List.setIfInBounds_toArray, List.set_cons_zero, List.set_cons_succ])
            iterate 2 still_step
            refine wpStill_nil ?_
            go_wp2_with fail
            go_roundw
            case rel => exact ⟨k + 1, by go_num, by omega, by omega, HE2, Hbz⟩
            case measure => simp [intOf]; omega
          · rw [hxg] at z1
            obtain ⟨b, hb⟩ : ∃ b, b = belowP x.p.data.toList c.p.data.toList := ⟨_, rfl⟩
            have hcall := rbelow_any x.p c.p wz (by omega) (by omega)
            rw [← hb] at hcall
            have Hcall := Lib.hid (flopW hcall)
            have ht : touchW (cwOf c) (cwOf x) = b := by
              unfold touchW cwOf
              rw [toList_data, toList_data] at he
              simp only [he, hxg, ← hb]
              simp
            clear hcall hb
            iterate 28 still_step
            still_call Hcall.out
            iterate 2 still_step
            refine wpStill_nil ?_
            cases b with
            | false =>
              have HE2 := Lib.hid (HE.out.trans (by rw [Hdr.out, stays_next ht] : _ = staysF (cwOf c) ((D.drop (k + 1)).map cwOf)))
              clear ht
              go_wp2_with fail
              go_roundw
              case rel => exact ⟨k + 1, by go_num, by omega, by omega, HE2, Hbz⟩
              case measure => simp [intOf]; omega
            | true =>
              have HE2 := Lib.hid (HE.out.trans (by rw [Hdr.out, stays_cons ht] : _ = false))
              clear ht
              go_wp2_with fail
              go_ret
              exact ⟨by rw [HE2.out]; rfl, Hbz.out⟩
        · have ht : touchW (cwOf c) (cwOf x) = true := by
            unfold touchW cwOf
            rw [toList_data, toList_data] at he
            simp only [he]
            rfl
          have HE2 := Lib.hid (HE.out.trans (by rw [Hdr.out, stays_cons ht] : _ = false))
          clear ht
          iterate 12 still_step
          iterate 18 (refine still_skipW (by rfl) ?_; simp only [Act.put, List.setIfInBounds_toArray, List.set_cons_zero, List.set_cons_succ])
          iterate 1 still_step
          refine wpStill_nil ?_
          go_wp2_with fail
          go_ret
          exact ⟨by rw [HE2.out]; rfl, Hbz.out⟩
      · obtain rfl : k = n := by omega
        have HE2 := Lib.hid (HE.out.trans (by rw [Hn.out, List.drop_length, List.map_nil]; unfold staysF; rw [hcg]; rfl : _ = true))
        go_wp2_with fail
        go_ret
        exact ⟨by rw [HE2.out]; rfl, HB.out⟩
  · rw [hg] at q1
    have e : staysF (cwOf c) ((D.drop (i + 1)).map cwOf) = false := by
      unfold staysF
      rw [show (cwOf c).g = true from hg]
      rfl
    rw [e]
    go_enter Try.func21, Try.ntmps21
    go_wp2_with fail
    go_ret
    exact ⟨rfl, Below.refl _ _⟩
end Go.Proofs.Ytebniijkhjnbdaa
