/- The reference's one, Check. -/
import Derived.Test.YtdkodedocklmdaaGreatDoorURef
import Derived.StillTailTactics
set_option linter.unusedSimpArgs false
set_option linter.unusedVariables false
namespace Go.Proofs.YtdkodedocklmdaaGreatDoor
open Go.RowKit Go.Maps
open Go.Lib hiding intOf size_eq
theorem ents_take {w : World} {o : Option Addr} {n cap i : Nat} {L : List Ent} (h : EntsAt w (.slice o n cap) L) (hi : i ≤ n) : EntsAt w (.slice o i cap) (L.take i) := by
  obtain ⟨o2, cap2, e, h1, h2, h3⟩ := h
  injection e with e1 e2 e3
  subst e1
  subst e3
  have hl : (L.take i).length = i := by rw [List.length_take]; omega
  refine ⟨o, cap, by rw [hl], by omega, h2, fun j x hx => ?_⟩
  have hj := (List.getElem?_eq_some_iff.1 hx).1
  rw [List.getElem?_take, if_pos (by omega)] at hx
  exact h3 j x hx
/-- the entry i where it lies -/
def EntIx (w : World) (a : Addr) (i : Nat) (e : Ent) : Prop := ∀ W, Below w.heap.size w W → (∀ j x, (entC e)[j]? = some x → W.cell? ((a.add (i * 5)).add j) = some x) ∧ W.cell? (a.add (i * 5)) = some (.string e.p) ∧ W.cell? ((a.add (i * 5)).add 3) = some (.string e.d)
theorem entIx_of {w : World} {a : Addr} {i : Nat} {e : Ent} (hal : a.block < w.heap.size) (hc : ∀ j x, (entC e)[j]? = some x → w.cell? ((a.add (i * 5)).add j) = some x) : EntIx w a i e := fun W hW => by
  have h1 : ∀ j x, (entC e)[j]? = some x → W.cell? ((a.add (i * 5)).add j) = some x := fun j x hx => by
    have := hc j x hx
    unfold World.cell? at this ⊢
    rw [hW.block _ (by rw [add_block, add_block]; omega)]
    exact this
  exact ⟨h1, by rw [← add_zero' (a.add (i * 5))]; exact h1 0 _ rfl, h1 3 _ rfl⟩
theorem add_ne (a : Addr) {m : Nat} (h : m ≠ 0) : a.add m = ⟨a.block, a.off + m, none⟩ := by unfold Addr.add; rw [if_neg h]
theorem take_getLast {L : List Ent} {k : Nat} {q : Ent} (h : L[k]? = some q) : (L.take (k + 1)).getLast? = some q := take_last h
set_option maxRecDepth 100000 in
set_option maxHeartbeats 8000000 in
theorem one07_zero (v : Value) (L : List Ent) (e : Ent) (w : World) (h : EntsAt w v L) (he : L[0]? = some e) (hs : e.p.size ≤ 1099511627776 ∧ e.l.size ≤ 1099511627776 ∧ e.d.size ≤ 1099511627776) :
    Calls Tryz.prog 51 #[v, .int .i64 0, .int .i64 0] w fun r w' => r = .returned (.int .i64 (oneNo [] e : Int)) ∧ Below w.heap.size w w' := by
  have hE := h
  obtain ⟨o, cap, rfl, hlc, hcm, hcells⟩ := h
  obtain ⟨a, rfl, hal, hcs⟩ := hcells 0 e he
  obtain ⟨n, hn⟩ : ∃ n, n = L.length := ⟨_, rfl⟩
  have hn0 : 0 < n := by rw [hn]; exact (List.getElem?_eq_some_iff.1 he).1
  rw [← hn] at hE hlc ⊢
  have hno : oneNo [] e = if itselfNo e ≠ 0 then itselfNo e else if upNo [] e.p.data.toList ≠ 0 then upNo [] e.p.data.toList else if 4096 ≤ ([] : List Ent).length ∨ 16777216 < bytesE [] + e.d.size then 5 else 0 := rfl
  have hit := itself07_any e w hs.1 hs.2.1 hs.2.2
  have hup := fun W (hW : Below w.heap.size w W) => up07_any (.slice (some a) 0 cap) [] e.p W ((ents_take hE (Nat.zero_le n)).below hW (Nat.le_refl _)) (by simp) (fun x hx => by cases hx) hs.1
  have hc : ∀ W, Below w.heap.size w W → W.cell? a = some (.string e.p) ∧ W.cell? ⟨a.block, a.off + 3, none⟩ = some (.string e.d) ∧ ∀ j x, (entC e)[j]? = some x → W.cell? (a.add j) = some x := fun W hW => by
    have h1 := entIx_of hal hcs W hW
    rw [Nat.zero_mul, add_zero', add_ne a (show 3 ≠ 0 by decide)] at h1
    exact ⟨h1.2.1, h1.2.2, h1.1⟩
  have Hc := Lib.hid hc
  have Hup := Lib.hid hup
  have hds := hs.2.2
  clear hE hcells hcs hal hn he hs hup hc
  rw [show bytesE ([] : List Ent) = 0 from rfl] at hno
  generalize upNo [] e.p.data.toList = u at *
  generalize oneNo [] e = N at *
  by_cases h1 : itselfNo e ≠ 0
  · rw [if_pos h1] at hno
    generalize itselfNo e = t at *
    have Hit := Lib.hid hit
    have Hno := Lib.hid hno
    have b1 : ((t : Int) != 0) = true := by simpa using h1
    clear hno hit h1
    go_enter Tryz.func51, Tryz.ntmps51
    go_wp2_with (first
      | (refine wpList_load_at rfl _ _ rfl a rfl [.string e.p, .int .i64 e.k, .int .i64 e.m, .string e.d, .string e.l] _ (Hc.out w (Below.refl _ _)).2.2 Tryz.underlying38 rfl (by kernel_rfl) ?_)
      | (go_at_call 93; refine Hit.out.mono ?_; rintro r w1 ⟨rfl, hb1⟩
         have f1w1 : w1.cell? a = some (.string e.p) := (Hc.out w1 hb1).1
         have Hb1 := Lib.hid hb1
         clear hb1))
    go_ret
    exact ⟨by rw [Hno.out]; rfl, Hb1.out⟩
  · rw [if_neg h1] at hno
    rw [show itselfNo e = 0 by omega] at hit
    have Hit := Lib.hid hit
    clear hit h1
    by_cases h2 : u ≠ 0
    · rw [if_pos h2] at hno
      have Hno := Lib.hid hno
      have b2 : ((u : Int) != 0) = true := by simpa using h2
      clear hno h2
      go_enter Tryz.func51, Tryz.ntmps51
      go_wp2_with (first
        | (refine wpList_load_at rfl _ _ rfl a rfl [.string e.p, .int .i64 e.k, .int .i64 e.m, .string e.d, .string e.l] _ (Hc.out w (Below.refl _ _)).2.2 Tryz.underlying38 rfl (by kernel_rfl) ?_)
        | (go_at_call 93; refine Hit.out.mono ?_; rintro r w1 ⟨rfl, hb1⟩
           have f1w1 : w1.cell? a = some (.string e.p) := (Hc.out w1 hb1).1
           have Hb1 := Lib.hid hb1
           clear hb1))
      go_quiet (fail)
      have Hb2 := Lib.hid (below_drewN Hb1.out nq)
      obtain ⟨w2, hww2⟩ : ∃ x, x = w1.drewN nq := ⟨_, rfl⟩
      rw [← hww2] at Hb2 ⊢
      have f1w2 : w2.cell? a = some (.string e.p) := (Hc.out w2 Hb2.out).1
      have f2w2 : w2.cell? ⟨a.block, a.off + 3, none⟩ = some (.string e.d) := (Hc.out w2 Hb2.out).2.1
      clear hww2 Hb1
      go_wp2_with fail
      go_quiet (fail)
      have Hb3 := Lib.hid (below_drewN Hb2.out nq)
      obtain ⟨w3, hww3⟩ : ∃ x, x = w2.drewN nq := ⟨_, rfl⟩
      rw [← hww3] at Hb3 ⊢
      have f1w3 : w3.cell? a = some (.string e.p) := (Hc.out w3 Hb3.out).1
      have f2w3 : w3.cell? ⟨a.block, a.off + 3, none⟩ = some (.string e.d) := (Hc.out w3 Hb3.out).2.1
      clear hww3 Hb2
      go_wp2_with fail
      have g1 : w3.drew.cell? a = some (.string e.p) := f1w3
      have g2 : w3.drew.cell? ⟨a.block, a.off + 3, none⟩ = some (.string e.d) := f2w3
      go_still_tail 8, (by kernel_rfl)
      go_wp2_with (first
        | (go_at_call 95; refine (Hup.out _ (below_drew Hb3.out)).mono ?_; rintro r w9 ⟨rfl, hb9⟩
           have Hb9 := Lib.hid ((below_drew Hb3.out).trans (hb9.mono (below_drew Hb3.out).size))
           have h1 : w9.cell? ⟨a.block, a.off + 3, none⟩ = some (.string e.d) := (Hc.out w9 Hb9.out).2.1
           clear hb9))
      go_ret
      exact ⟨by rw [Hno.out]; rfl, Hb9.out⟩
    · obtain rfl : u = 0 := by omega
      rw [if_neg h2] at hno
      clear h2
      by_cases h3 : 4096 ≤ ([] : List Ent).length ∨ 16777216 < 0 + e.d.size
      · rw [if_pos h3] at hno
        have h4 : 16777216 < e.d.size := by simp at h3; omega
        have Hno := Lib.hid hno
        clear hno h3
        go_enter Tryz.func51, Tryz.ntmps51
        go_wp2_with (first
          | (refine wpList_load_at rfl _ _ rfl a rfl [.string e.p, .int .i64 e.k, .int .i64 e.m, .string e.d, .string e.l] _ (Hc.out w (Below.refl _ _)).2.2 Tryz.underlying38 rfl (by kernel_rfl) ?_)
          | (go_at_call 93; refine Hit.out.mono ?_; rintro r w1 ⟨rfl, hb1⟩
             have f1w1 : w1.cell? a = some (.string e.p) := (Hc.out w1 hb1).1
             have Hb1 := Lib.hid hb1
             clear hb1))
        go_quiet (fail)
        have Hb2 := Lib.hid (below_drewN Hb1.out nq)
        obtain ⟨w2, hww2⟩ : ∃ x, x = w1.drewN nq := ⟨_, rfl⟩
        rw [← hww2] at Hb2 ⊢
        have f1w2 : w2.cell? a = some (.string e.p) := (Hc.out w2 Hb2.out).1
        have f2w2 : w2.cell? ⟨a.block, a.off + 3, none⟩ = some (.string e.d) := (Hc.out w2 Hb2.out).2.1
        clear hww2 Hb1
        go_wp2_with fail
        go_quiet (fail)
        have Hb3 := Lib.hid (below_drewN Hb2.out nq)
        obtain ⟨w3, hww3⟩ : ∃ x, x = w2.drewN nq := ⟨_, rfl⟩
        rw [← hww3] at Hb3 ⊢
        have f1w3 : w3.cell? a = some (.string e.p) := (Hc.out w3 Hb3.out).1
        have f2w3 : w3.cell? ⟨a.block, a.off + 3, none⟩ = some (.string e.d) := (Hc.out w3 Hb3.out).2.1
        clear hww3 Hb2
        go_wp2_with fail
        have g1 : w3.drew.cell? a = some (.string e.p) := f1w3
        have g2 : w3.drew.cell? ⟨a.block, a.off + 3, none⟩ = some (.string e.d) := f2w3
        go_still_tail 8, (by kernel_rfl)
        go_wp2_with (first
          | (go_at_call 95; refine (Hup.out _ (below_drew Hb3.out)).mono ?_; rintro r w9 ⟨rfl, hb9⟩
             have Hb9 := Lib.hid ((below_drew Hb3.out).trans (hb9.mono (below_drew Hb3.out).size))
             have h1 : w9.cell? ⟨a.block, a.off + 3, none⟩ = some (.string e.d) := (Hc.out w9 Hb9.out).2.1
             clear hb9))
        go_ret
        exact ⟨by rw [Hno.out]; rfl, Hb9.out⟩
      · rw [if_neg h3] at hno
        have h4 : e.d.size ≤ 16777216 := by simp at h3; omega
        have Hno := Lib.hid hno
        clear hno h3
        go_enter Tryz.func51, Tryz.ntmps51
        go_wp2_with (first
          | (refine wpList_load_at rfl _ _ rfl a rfl [.string e.p, .int .i64 e.k, .int .i64 e.m, .string e.d, .string e.l] _ (Hc.out w (Below.refl _ _)).2.2 Tryz.underlying38 rfl (by kernel_rfl) ?_)
          | (go_at_call 93; refine Hit.out.mono ?_; rintro r w1 ⟨rfl, hb1⟩
             have f1w1 : w1.cell? a = some (.string e.p) := (Hc.out w1 hb1).1
             have Hb1 := Lib.hid hb1
             clear hb1))
        go_quiet (fail)
        have Hb2 := Lib.hid (below_drewN Hb1.out nq)
        obtain ⟨w2, hww2⟩ : ∃ x, x = w1.drewN nq := ⟨_, rfl⟩
        rw [← hww2] at Hb2 ⊢
        have f1w2 : w2.cell? a = some (.string e.p) := (Hc.out w2 Hb2.out).1
        have f2w2 : w2.cell? ⟨a.block, a.off + 3, none⟩ = some (.string e.d) := (Hc.out w2 Hb2.out).2.1
        clear hww2 Hb1
        go_wp2_with fail
        go_quiet (fail)
        have Hb3 := Lib.hid (below_drewN Hb2.out nq)
        obtain ⟨w3, hww3⟩ : ∃ x, x = w2.drewN nq := ⟨_, rfl⟩
        rw [← hww3] at Hb3 ⊢
        have f1w3 : w3.cell? a = some (.string e.p) := (Hc.out w3 Hb3.out).1
        have f2w3 : w3.cell? ⟨a.block, a.off + 3, none⟩ = some (.string e.d) := (Hc.out w3 Hb3.out).2.1
        clear hww3 Hb2
        go_wp2_with fail
        have g1 : w3.drew.cell? a = some (.string e.p) := f1w3
        have g2 : w3.drew.cell? ⟨a.block, a.off + 3, none⟩ = some (.string e.d) := f2w3
        go_still_tail 8, (by kernel_rfl)
        go_wp2_with (first
          | (go_at_call 95; refine (Hup.out _ (below_drew Hb3.out)).mono ?_; rintro r w9 ⟨rfl, hb9⟩
             have Hb9 := Lib.hid ((below_drew Hb3.out).trans (hb9.mono (below_drew Hb3.out).size))
             have h1 : w9.cell? ⟨a.block, a.off + 3, none⟩ = some (.string e.d) := (Hc.out w9 Hb9.out).2.1
             clear hb9))
        go_ret
        exact ⟨by rw [Hno.out]; rfl, Hb9.out⟩
set_option maxRecDepth 100000 in
set_option maxHeartbeats 16000000 in
theorem one07_succ (v : Value) (L : List Ent) (k i : Nat) (q e : Ent) (w : World) (h : EntsAt w v L) (hki : i = k + 1) (hq : L[k]? = some q) (he : L[i]? = some e) (hL : ∀ x ∈ L, x.p.size ≤ 1099511627776) (hs : e.l.size ≤ 1099511627776 ∧ e.d.size ≤ 1099511627776) (hl : L.length ≤ 1099511627776) (hby : bytesE (L.take i) ≤ 1099511627776) :
    Calls Tryz.prog 51 #[v, .int .i64 (i : Int), .int .i64 (bytesE (L.take i) : Int)] w fun r w' => r = .returned (.int .i64 (oneNo (L.take i) e : Int)) ∧ Below w.heap.size w w' := by
  have hE := h
  obtain ⟨o, cap, rfl, hlc, hcm, hcells⟩ := h
  obtain ⟨a, rfl, hal, hcs⟩ := hcells i e he
  obtain ⟨a', ea, hal', hcs'⟩ := hcells k q hq
  injection ea with ea
  subst ea
  have hep := hL e (List.mem_of_getElem? he)
  have hqp := hL q (List.mem_of_getElem? hq)
  obtain ⟨n, hn⟩ : ∃ n, n = L.length := ⟨_, rfl⟩
  have hkn : i < n := by rw [hn]; exact (List.getElem?_eq_some_iff.1 he).1
  have hkn2 : k < n := by omega
  have hlen : (L.take i).length = i := by rw [List.length_take, ← hn]; omega
  rw [← hn] at hE hlc hl ⊢
  have hno : oneNo (L.take i) e = if itselfNo e ≠ 0 then itselfNo e else if q.path = e.path then 11 else if 0 < compareP q.path e.path then 1
      else if upNo (L.take i) e.p.data.toList ≠ 0 then upNo (L.take i) e.p.data.toList else if 4096 ≤ i ∨ 16777216 < bytesE (L.take i) + e.d.size then 5 else 0 := by
    unfold oneNo
    rw [show (L.take i).getLast? = some q by rw [hki]; exact take_getLast hq, hlen]
    rfl
  have hit := itself07_any e w hep hs.1 hs.2
  have hup := fun W (hW : Below w.heap.size w W) => up07_any (.slice (some a) i cap) (L.take i) e.p W ((ents_take hE (show i ≤ n by omega)).below hW (Nat.le_refl _)) (by rw [hlen]; omega) (fun x hx => by have := hL x (List.mem_of_mem_take hx); omega) hep
  have hcmp := fun W => rcompare_any q.p e.p W hqp hep
  have hc : ∀ W, Below w.heap.size w W → W.cell? (a.add (i * 5)) = some (.string e.p) ∧ W.cell? ⟨(a.add (i * 5)).block, (a.add (i * 5)).off + 3, none⟩ = some (.string e.d) ∧ (∀ j x, (entC e)[j]? = some x → W.cell? ((a.add (i * 5)).add j) = some x) ∧ W.cell? (a.add (k * 5)) = some (.string q.p) := fun W hW => by
    have h1 := entIx_of hal hcs W hW
    have h2 := entIx_of hal' hcs' W hW
    have h3 := h1.2.2
    have h4 := h1.2.1
    rw [add_ne _ (show 3 ≠ 0 by decide)] at h3
    exact ⟨h4, h3, h1.1, h2.2.1⟩
  have hpq : q.path = e.path ↔ (q.p.toList == e.p.toList) = true := by
    unfold Ent.path
    rw [beq_iff_eq, toList_data, toList_data]
  have Hc := Lib.hid hc
  have Hup := Lib.hid hup
  have hds := hs.2
  have wr : IntKind.i64.wrap ((i : Int) - 1) = (k : Int) := by rw [IntKind.wrap_i64]; omega
  have wr2 : (i : Int) - 1 = (k : Int) := by omega
  have wr3 : IntKind.i64.wrap (k : Int) = (k : Int) := wrap_nat (by unfold maxLen; omega)
  have hi0 : 0 < i := by omega
  have hic : i ≤ cap := by omega
  have hc2 : q.path = q.p.data.toList ∧ e.path = e.p.data.toList := ⟨rfl, rfl⟩
  rw [show compareP q.p.data.toList e.p.data.toList = compareP q.path e.path from rfl] at hcmp
  have Hki := Lib.hid hki
  clear hki
  clear hE hcells hcs hal hcs' hal' hn he hq hs hup hc hL hep hqp hlen hc2
  generalize upNo (L.take i) e.p.data.toList = u at *
  generalize oneNo (L.take i) e = N at *
  generalize bytesE (L.take i) = bb at *
  generalize compareP q.path e.path = c at *
  by_cases h1 : itselfNo e ≠ 0
  · rw [if_pos h1] at hno
    generalize itselfNo e = t at *
    have Hit := Lib.hid hit
    have Hno := Lib.hid hno
    have Hcmp := Lib.hid hcmp
    have b1 : ((t : Int) != 0) = true := by simpa using h1
    clear hno hit h1 hcmp hpq
    go_enter Tryz.func51, Tryz.ntmps51
    go_wp2_with (first
      | (refine wpList_load_at rfl _ _ rfl (a.add (i * 5)) rfl [.string e.p, .int .i64 e.k, .int .i64 e.m, .string e.d, .string e.l] _ (Hc.out w (Below.refl _ _)).2.2.1 Tryz.underlying38 rfl (by kernel_rfl) ?_)
      | (go_at_call 93; refine Hit.out.mono ?_; rintro r w1 ⟨rfl, hb1⟩
         have f1w1 : w1.cell? (a.add (i * 5)) = some (.string e.p) := (Hc.out w1 hb1).1
         have q1w1 : w1.cell? (a.add (k * 5)) = some (.string q.p) := (Hc.out w1 hb1).2.2.2
         have Hb1 := Lib.hid hb1
         clear hb1))
    go_ret
    exact ⟨by rw [Hno.out]; rfl, Hb1.out⟩
  · rw [if_neg h1] at hno
    rw [show itselfNo e = 0 by omega] at hit
    have Hit := Lib.hid hit
    have Hcmp := Lib.hid hcmp
    clear hit h1 hcmp
    by_cases h2 : q.path = e.path
    · rw [if_pos h2] at hno
      have Hno := Lib.hid hno
      have b2 := hpq.1 h2
      clear hno h2 hpq
      go_enter Tryz.func51, Tryz.ntmps51
      go_wp2_with (first
        | (refine wpList_load_at rfl _ _ rfl (a.add (i * 5)) rfl [.string e.p, .int .i64 e.k, .int .i64 e.m, .string e.d, .string e.l] _ (Hc.out w (Below.refl _ _)).2.2.1 Tryz.underlying38 rfl (by kernel_rfl) ?_)
        | (go_at_call 93; refine Hit.out.mono ?_; rintro r w1 ⟨rfl, hb1⟩
           have f1w1 : w1.cell? (a.add (i * 5)) = some (.string e.p) := (Hc.out w1 hb1).1
           have q1w1 : w1.cell? (a.add (k * 5)) = some (.string q.p) := (Hc.out w1 hb1).2.2.2
           have Hb1 := Lib.hid hb1
           clear hb1))
      go_quiet (fail)
      have Hb2 := Lib.hid (below_drewN Hb1.out nq)
      obtain ⟨w2, hww2⟩ : ∃ x, x = w1.drewN nq := ⟨_, rfl⟩
      rw [← hww2] at Hb2 ⊢
      have f1w2 : w2.cell? (a.add (i * 5)) = some (.string e.p) := (Hc.out w2 Hb2.out).1
      have f2w2 : w2.cell? ⟨(a.add (i * 5)).block, (a.add (i * 5)).off + 3, none⟩ = some (.string e.d) := (Hc.out w2 Hb2.out).2.1
      clear hww2 Hb1
      have q1w2 : w2.cell? (a.add (k * 5)) = some (.string q.p) := (Hc.out w2 Hb2.out).2.2.2
      go_wp2_with fail
      go_ret
      exact ⟨by rw [Hno.out]; rfl, Hb2.out⟩
    · rw [if_neg h2] at hno
      have b2 : (q.p.toList == e.p.toList) = false := by
        cases hx : (q.p.toList == e.p.toList) with
        | false => rfl
        | true => exact absurd (hpq.2 hx) h2
      clear h2 hpq
      by_cases h3 : 0 < c
      · rw [if_pos h3] at hno
        have Hno := Lib.hid hno
        clear hno
        go_enter Tryz.func51, Tryz.ntmps51
        go_wp2_with (first
          | (refine wpList_load_at rfl _ _ rfl (a.add (i * 5)) rfl [.string e.p, .int .i64 e.k, .int .i64 e.m, .string e.d, .string e.l] _ (Hc.out w (Below.refl _ _)).2.2.1 Tryz.underlying38 rfl (by kernel_rfl) ?_)
          | (go_at_call 93; refine Hit.out.mono ?_; rintro r w1 ⟨rfl, hb1⟩
             have f1w1 : w1.cell? (a.add (i * 5)) = some (.string e.p) := (Hc.out w1 hb1).1
             have q1w1 : w1.cell? (a.add (k * 5)) = some (.string q.p) := (Hc.out w1 hb1).2.2.2
             have Hb1 := Lib.hid hb1
             clear hb1))
        go_quiet (fail)
        have Hb2 := Lib.hid (below_drewN Hb1.out nq)
        obtain ⟨w2, hww2⟩ : ∃ x, x = w1.drewN nq := ⟨_, rfl⟩
        rw [← hww2] at Hb2 ⊢
        have f1w2 : w2.cell? (a.add (i * 5)) = some (.string e.p) := (Hc.out w2 Hb2.out).1
        have f2w2 : w2.cell? ⟨(a.add (i * 5)).block, (a.add (i * 5)).off + 3, none⟩ = some (.string e.d) := (Hc.out w2 Hb2.out).2.1
        clear hww2 Hb1
        have q1w2 : w2.cell? (a.add (k * 5)) = some (.string q.p) := (Hc.out w2 Hb2.out).2.2.2
        go_wp2_with fail
        have x1 : w2.drew.cell? (a.add (i * 5)) = some (.string e.p) := f1w2
        have x2 : w2.drew.cell? (a.add (k * 5)) = some (.string q.p) := q1w2
        go_still_tail 14, (by kernel_rfl)
        go_wp2_with (first
          | (go_at_call 94; refine (Hcmp.out _).mono ?_; rintro r w3 ⟨rfl, hb3⟩
             have Hb3 := Lib.hid ((below_drew Hb2.out).trans (hb3.mono (below_drew Hb2.out).size))
             have f1w3 : w3.cell? (a.add (i * 5)) = some (.string e.p) := (Hc.out w3 Hb3.out).1
             have f2w3 : w3.cell? ⟨(a.add (i * 5)).block, (a.add (i * 5)).off + 3, none⟩ = some (.string e.d) := (Hc.out w3 Hb3.out).2.1
             clear hb3))
        go_ret
        exact ⟨by rw [Hno.out]; rfl, Hb3.out⟩
      · rw [if_neg h3] at hno
        by_cases h4 : u ≠ 0
        · rw [if_pos h4] at hno
          have Hno := Lib.hid hno
          have b4 : ((u : Int) != 0) = true := by simpa using h4
          clear hno h4
          go_enter Tryz.func51, Tryz.ntmps51
          go_wp2_with (first
            | (refine wpList_load_at rfl _ _ rfl (a.add (i * 5)) rfl [.string e.p, .int .i64 e.k, .int .i64 e.m, .string e.d, .string e.l] _ (Hc.out w (Below.refl _ _)).2.2.1 Tryz.underlying38 rfl (by kernel_rfl) ?_)
            | (go_at_call 93; refine Hit.out.mono ?_; rintro r w1 ⟨rfl, hb1⟩
               have f1w1 : w1.cell? (a.add (i * 5)) = some (.string e.p) := (Hc.out w1 hb1).1
               have q1w1 : w1.cell? (a.add (k * 5)) = some (.string q.p) := (Hc.out w1 hb1).2.2.2
               have Hb1 := Lib.hid hb1
               clear hb1))
          go_quiet (fail)
          have Hb2 := Lib.hid (below_drewN Hb1.out nq)
          obtain ⟨w2, hww2⟩ : ∃ x, x = w1.drewN nq := ⟨_, rfl⟩
          rw [← hww2] at Hb2 ⊢
          have f1w2 : w2.cell? (a.add (i * 5)) = some (.string e.p) := (Hc.out w2 Hb2.out).1
          have f2w2 : w2.cell? ⟨(a.add (i * 5)).block, (a.add (i * 5)).off + 3, none⟩ = some (.string e.d) := (Hc.out w2 Hb2.out).2.1
          clear hww2 Hb1
          have q1w2 : w2.cell? (a.add (k * 5)) = some (.string q.p) := (Hc.out w2 Hb2.out).2.2.2
          go_wp2_with fail
          have x1 : w2.drew.cell? (a.add (i * 5)) = some (.string e.p) := f1w2
          have x2 : w2.drew.cell? (a.add (k * 5)) = some (.string q.p) := q1w2
          go_still_tail 14, (by kernel_rfl)
          go_wp2_with (first
            | (go_at_call 94; refine (Hcmp.out _).mono ?_; rintro r w3 ⟨rfl, hb3⟩
               have Hb3 := Lib.hid ((below_drew Hb2.out).trans (hb3.mono (below_drew Hb2.out).size))
               have f1w3 : w3.cell? (a.add (i * 5)) = some (.string e.p) := (Hc.out w3 Hb3.out).1
               have f2w3 : w3.cell? ⟨(a.add (i * 5)).block, (a.add (i * 5)).off + 3, none⟩ = some (.string e.d) := (Hc.out w3 Hb3.out).2.1
               clear hb3))
          have g1 : w3.drew.cell? (a.add (i * 5)) = some (.string e.p) := f1w3
          have g2 : w3.drew.cell? ⟨(a.add (i * 5)).block, (a.add (i * 5)).off + 3, none⟩ = some (.string e.d) := f2w3
          go_still_tail 8, (by kernel_rfl)
          go_wp2_with (first
            | (go_at_call 95; refine (Hup.out _ (below_drew Hb3.out)).mono ?_; rintro r w9 ⟨rfl, hb9⟩
               have Hb9 := Lib.hid ((below_drew Hb3.out).trans (hb9.mono (below_drew Hb3.out).size))
               have h1 : w9.cell? ⟨(a.add (i * 5)).block, (a.add (i * 5)).off + 3, none⟩ = some (.string e.d) := (Hc.out w9 Hb9.out).2.1
               clear hb9))
          go_ret
          exact ⟨by rw [Hno.out]; rfl, Hb9.out⟩
        · obtain rfl : u = 0 := by omega
          rw [if_neg h4] at hno
          clear h4
          by_cases h5 : 4096 ≤ i ∨ 16777216 < bb + e.d.size
          · rw [if_pos h5] at hno
            have Hno := Lib.hid hno
            clear hno
            by_cases h6 : 4096 ≤ i
            · clear h5
              go_enter Tryz.func51, Tryz.ntmps51
              go_wp2_with (first
                | (refine wpList_load_at rfl _ _ rfl (a.add (i * 5)) rfl [.string e.p, .int .i64 e.k, .int .i64 e.m, .string e.d, .string e.l] _ (Hc.out w (Below.refl _ _)).2.2.1 Tryz.underlying38 rfl (by kernel_rfl) ?_)
                | (go_at_call 93; refine Hit.out.mono ?_; rintro r w1 ⟨rfl, hb1⟩
                   have f1w1 : w1.cell? (a.add (i * 5)) = some (.string e.p) := (Hc.out w1 hb1).1
                   have q1w1 : w1.cell? (a.add (k * 5)) = some (.string q.p) := (Hc.out w1 hb1).2.2.2
                   have Hb1 := Lib.hid hb1
                   clear hb1))
              go_quiet (fail)
              have Hb2 := Lib.hid (below_drewN Hb1.out nq)
              obtain ⟨w2, hww2⟩ : ∃ x, x = w1.drewN nq := ⟨_, rfl⟩
              rw [← hww2] at Hb2 ⊢
              have f1w2 : w2.cell? (a.add (i * 5)) = some (.string e.p) := (Hc.out w2 Hb2.out).1
              have f2w2 : w2.cell? ⟨(a.add (i * 5)).block, (a.add (i * 5)).off + 3, none⟩ = some (.string e.d) := (Hc.out w2 Hb2.out).2.1
              clear hww2 Hb1
              have q1w2 : w2.cell? (a.add (k * 5)) = some (.string q.p) := (Hc.out w2 Hb2.out).2.2.2
              go_wp2_with fail
              have x1 : w2.drew.cell? (a.add (i * 5)) = some (.string e.p) := f1w2
              have x2 : w2.drew.cell? (a.add (k * 5)) = some (.string q.p) := q1w2
              go_still_tail 14, (by kernel_rfl)
              go_wp2_with (first
                | (go_at_call 94; refine (Hcmp.out _).mono ?_; rintro r w3 ⟨rfl, hb3⟩
                   have Hb3 := Lib.hid ((below_drew Hb2.out).trans (hb3.mono (below_drew Hb2.out).size))
                   have f1w3 : w3.cell? (a.add (i * 5)) = some (.string e.p) := (Hc.out w3 Hb3.out).1
                   have f2w3 : w3.cell? ⟨(a.add (i * 5)).block, (a.add (i * 5)).off + 3, none⟩ = some (.string e.d) := (Hc.out w3 Hb3.out).2.1
                   clear hb3))
              have g1 : w3.drew.cell? (a.add (i * 5)) = some (.string e.p) := f1w3
              have g2 : w3.drew.cell? ⟨(a.add (i * 5)).block, (a.add (i * 5)).off + 3, none⟩ = some (.string e.d) := f2w3
              go_still_tail 8, (by kernel_rfl)
              go_wp2_with (first
                | (go_at_call 95; refine (Hup.out _ (below_drew Hb3.out)).mono ?_; rintro r w9 ⟨rfl, hb9⟩
                   have Hb9 := Lib.hid ((below_drew Hb3.out).trans (hb9.mono (below_drew Hb3.out).size))
                   have h1 : w9.cell? ⟨(a.add (i * 5)).block, (a.add (i * 5)).off + 3, none⟩ = some (.string e.d) := (Hc.out w9 Hb9.out).2.1
                   clear hb9))
              go_ret
              exact ⟨by rw [Hno.out]; rfl, Hb9.out⟩
            · have h7 : 16777216 < bb + e.d.size := by omega
              clear h5
              go_enter Tryz.func51, Tryz.ntmps51
              go_wp2_with (first
                | (refine wpList_load_at rfl _ _ rfl (a.add (i * 5)) rfl [.string e.p, .int .i64 e.k, .int .i64 e.m, .string e.d, .string e.l] _ (Hc.out w (Below.refl _ _)).2.2.1 Tryz.underlying38 rfl (by kernel_rfl) ?_)
                | (go_at_call 93; refine Hit.out.mono ?_; rintro r w1 ⟨rfl, hb1⟩
                   have f1w1 : w1.cell? (a.add (i * 5)) = some (.string e.p) := (Hc.out w1 hb1).1
                   have q1w1 : w1.cell? (a.add (k * 5)) = some (.string q.p) := (Hc.out w1 hb1).2.2.2
                   have Hb1 := Lib.hid hb1
                   clear hb1))
              go_quiet (fail)
              have Hb2 := Lib.hid (below_drewN Hb1.out nq)
              obtain ⟨w2, hww2⟩ : ∃ x, x = w1.drewN nq := ⟨_, rfl⟩
              rw [← hww2] at Hb2 ⊢
              have f1w2 : w2.cell? (a.add (i * 5)) = some (.string e.p) := (Hc.out w2 Hb2.out).1
              have f2w2 : w2.cell? ⟨(a.add (i * 5)).block, (a.add (i * 5)).off + 3, none⟩ = some (.string e.d) := (Hc.out w2 Hb2.out).2.1
              clear hww2 Hb1
              have q1w2 : w2.cell? (a.add (k * 5)) = some (.string q.p) := (Hc.out w2 Hb2.out).2.2.2
              go_wp2_with fail
              have x1 : w2.drew.cell? (a.add (i * 5)) = some (.string e.p) := f1w2
              have x2 : w2.drew.cell? (a.add (k * 5)) = some (.string q.p) := q1w2
              go_still_tail 14, (by kernel_rfl)
              go_wp2_with (first
                | (go_at_call 94; refine (Hcmp.out _).mono ?_; rintro r w3 ⟨rfl, hb3⟩
                   have Hb3 := Lib.hid ((below_drew Hb2.out).trans (hb3.mono (below_drew Hb2.out).size))
                   have f1w3 : w3.cell? (a.add (i * 5)) = some (.string e.p) := (Hc.out w3 Hb3.out).1
                   have f2w3 : w3.cell? ⟨(a.add (i * 5)).block, (a.add (i * 5)).off + 3, none⟩ = some (.string e.d) := (Hc.out w3 Hb3.out).2.1
                   clear hb3))
              have g1 : w3.drew.cell? (a.add (i * 5)) = some (.string e.p) := f1w3
              have g2 : w3.drew.cell? ⟨(a.add (i * 5)).block, (a.add (i * 5)).off + 3, none⟩ = some (.string e.d) := f2w3
              go_still_tail 8, (by kernel_rfl)
              go_wp2_with (first
                | (go_at_call 95; refine (Hup.out _ (below_drew Hb3.out)).mono ?_; rintro r w9 ⟨rfl, hb9⟩
                   have Hb9 := Lib.hid ((below_drew Hb3.out).trans (hb9.mono (below_drew Hb3.out).size))
                   have h1 : w9.cell? ⟨(a.add (i * 5)).block, (a.add (i * 5)).off + 3, none⟩ = some (.string e.d) := (Hc.out w9 Hb9.out).2.1
                   clear hb9))
              go_ret
              exact ⟨by rw [Hno.out]; rfl, Hb9.out⟩
          · rw [if_neg h5] at hno
            have h6 : i < 4096 ∧ bb + e.d.size ≤ 16777216 := by omega
            obtain ⟨h7, h8⟩ := h6
            have Hno := Lib.hid hno
            clear hno h5
            go_enter Tryz.func51, Tryz.ntmps51
            go_wp2_with (first
              | (refine wpList_load_at rfl _ _ rfl (a.add (i * 5)) rfl [.string e.p, .int .i64 e.k, .int .i64 e.m, .string e.d, .string e.l] _ (Hc.out w (Below.refl _ _)).2.2.1 Tryz.underlying38 rfl (by kernel_rfl) ?_)
              | (go_at_call 93; refine Hit.out.mono ?_; rintro r w1 ⟨rfl, hb1⟩
                 have f1w1 : w1.cell? (a.add (i * 5)) = some (.string e.p) := (Hc.out w1 hb1).1
                 have q1w1 : w1.cell? (a.add (k * 5)) = some (.string q.p) := (Hc.out w1 hb1).2.2.2
                 have Hb1 := Lib.hid hb1
                 clear hb1))
            go_quiet (fail)
            have Hb2 := Lib.hid (below_drewN Hb1.out nq)
            obtain ⟨w2, hww2⟩ : ∃ x, x = w1.drewN nq := ⟨_, rfl⟩
            rw [← hww2] at Hb2 ⊢
            have f1w2 : w2.cell? (a.add (i * 5)) = some (.string e.p) := (Hc.out w2 Hb2.out).1
            have f2w2 : w2.cell? ⟨(a.add (i * 5)).block, (a.add (i * 5)).off + 3, none⟩ = some (.string e.d) := (Hc.out w2 Hb2.out).2.1
            clear hww2 Hb1
            have q1w2 : w2.cell? (a.add (k * 5)) = some (.string q.p) := (Hc.out w2 Hb2.out).2.2.2
            go_wp2_with fail
            have x1 : w2.drew.cell? (a.add (i * 5)) = some (.string e.p) := f1w2
            have x2 : w2.drew.cell? (a.add (k * 5)) = some (.string q.p) := q1w2
            go_still_tail 14, (by kernel_rfl)
            go_wp2_with (first
              | (go_at_call 94; refine (Hcmp.out _).mono ?_; rintro r w3 ⟨rfl, hb3⟩
                 have Hb3 := Lib.hid ((below_drew Hb2.out).trans (hb3.mono (below_drew Hb2.out).size))
                 have f1w3 : w3.cell? (a.add (i * 5)) = some (.string e.p) := (Hc.out w3 Hb3.out).1
                 have f2w3 : w3.cell? ⟨(a.add (i * 5)).block, (a.add (i * 5)).off + 3, none⟩ = some (.string e.d) := (Hc.out w3 Hb3.out).2.1
                 clear hb3))
            have g1 : w3.drew.cell? (a.add (i * 5)) = some (.string e.p) := f1w3
            have g2 : w3.drew.cell? ⟨(a.add (i * 5)).block, (a.add (i * 5)).off + 3, none⟩ = some (.string e.d) := f2w3
            go_still_tail 8, (by kernel_rfl)
            go_wp2_with (first
              | (go_at_call 95; refine (Hup.out _ (below_drew Hb3.out)).mono ?_; rintro r w9 ⟨rfl, hb9⟩
                 have Hb9 := Lib.hid ((below_drew Hb3.out).trans (hb9.mono (below_drew Hb3.out).size))
                 have h1 : w9.cell? ⟨(a.add (i * 5)).block, (a.add (i * 5)).off + 3, none⟩ = some (.string e.d) := (Hc.out w9 Hb9.out).2.1
                 clear hb9))
            go_ret
            exact ⟨by rw [Hno.out]; rfl, Hb9.out⟩
theorem one07_any (v : Value) (L : List Ent) (i : Nat) (e : Ent) (w : World) (h : EntsAt w v L) (he : L[i]? = some e) (hL : ∀ x ∈ L, x.p.size ≤ 1099511627776 ∧ x.l.size ≤ 1099511627776 ∧ x.d.size ≤ 1099511627776) (hl : L.length ≤ 1099511627776) (hby : bytesE (L.take i) ≤ 1099511627776) :
    Calls Tryz.prog 51 #[v, .int .i64 (i : Int), .int .i64 (bytesE (L.take i) : Int)] w fun r w' => r = .returned (.int .i64 (oneNo (L.take i) e : Int)) ∧ Below w.heap.size w w' := by
  cases i with
  | zero => exact one07_zero v L e w h he (hL e (List.mem_of_getElem? he))
  | succ k =>
    have hk : k + 1 < L.length := (List.getElem?_eq_some_iff.1 he).1
    have hq : L[k]? = some (L[k]'(by omega)) := List.getElem?_eq_getElem (by omega)
    exact one07_succ v L k (k + 1) _ e w h rfl hq he (fun x hx => (hL x hx).1) (hL e (List.mem_of_getElem? he)).2 hl hby
set_option maxRecDepth 100000 in
set_option maxHeartbeats 8000000 in
theorem rcheck07_any (v : Value) (L : List Ent) (w : World) (h : EntsAt w v L) (hL : ∀ x ∈ L, x.p.size ≤ 1099511627776 ∧ x.l.size ≤ 1099511627776 ∧ x.d.size ≤ 1099511627776) (hl : L.length ≤ 1099511627776) :
    Calls Tryz.prog 11 #[v] w fun r w' => r = .returned (.tuple #[.int .i64 ((checkL L).1 : Int), .int .i64 ((checkL L).2 : Int)]) ∧ Below w.heap.size w w' := by
  have hE := h
  obtain ⟨o, cap, rfl, hlc, hcm, hcells⟩ := h
  obtain ⟨n, hn⟩ : ∃ n, n = L.length := ⟨_, rfl⟩
  rw [← hn] at hE hlc hl ⊢
  have HE := Lib.hid hE
  have Hcells := Lib.hid hcells
  have Hn := Lib.hid hn
  have HL := Lib.hid hL
  clear hE hcells hn hL
  go_enter Tryz.func11, Tryz.ntmps11
  go_wp2_with fail
  go_loopw [4, 5, 6] (fun bv iv _ wr => ∃ (k : Nat), iv = .int .i64 (k : Int) ∧ bv = .int .i64 (bytesE (L.take k) : Int) ∧ k ≤ n ∧ Below w.heap.size w wr ∧ Good (L.take k) ∧ checkGo (L.take k) (L.drop k) = checkL L) (fun _ iv _ _ => n - (intOf iv).toNat)
  case atStart => exact ⟨0, rfl, rfl, Nat.zero_le _, Below.refl _ _, good_nil, rfl⟩
  case round =>
    obtain ⟨k, rfl, rfl, hk, hbr, hgood, hck⟩ := hrel
    by_cases hlt : k < n
    · obtain ⟨e, hek⟩ : ∃ e, L[k]? = some e := ⟨_, List.getElem?_eq_getElem (by rw [← Hn.out]; exact hlt)⟩
      obtain ⟨a, rfl, hal, hcs⟩ := Hcells.out k e hek
      have hby := hgood.byt
      have hone := one07_any (.slice (some a) n cap) L k e wr (HE.out.below hbr (Nat.le_refl _)) hek HL.out (by rw [← Hn.out]; exact hl) (by omega)
      have hds := (HL.out e (List.mem_of_getElem? hek)).2.2
      have hcd : ∀ W, Below wr.heap.size wr W → W.cell? ⟨(a.add (k * 5)).block, (a.add (k * 5)).off + 3, none⟩ = some (.string e.d) := fun W hW => by
        have := (entIx_of hal hcs W (hbr.trans (hW.mono hbr.size))).2.2
        rw [add_ne _ (show 3 ≠ 0 by decide)] at this
        exact this
      have Hone := Lib.hid hone
      have Hcd := Lib.hid hcd
      have Hbr := Lib.hid hbr
      have Hek := Lib.hid hek
      have Hck := Lib.hid hck
      have Hgood := Lib.hid hgood
      by_cases h0 : oneNo (L.take k) e ≠ 0
      · have hfin : checkL L = (oneNo (L.take k) e, k) := check_stop hek hck h0
        generalize oneNo (L.take k) e = N at *
        have Hfin := Lib.hid hfin
        have b1 : ((N : Int) != 0) = true := by simpa using h0
        generalize bytesE (L.take k) = bb at *
        clear hone hcd hbr hek hck hgood hfin h0 hcs
        go_wp2_with (first
          | (go_at_call 51; refine Hone.out.mono ?_; rintro r w1 ⟨rfl, hb1⟩
             have Hb1 := Lib.hid (Hbr.out.trans (hb1.mono Hbr.out.size))
             clear hb1))
        go_ret2
        exact ⟨by rw [Hfin.out]; rfl, Hb1.out⟩
      · have h0' : oneNo (L.take k) e = 0 := by omega
        rw [h0'] at Hone
        have hstep := check_step hek hck h0'
        have hg2 := Good.add hgood h0'
        rw [take_step hek] at hg2
        have hby2 : bytesE (L.take (k + 1)) = bytesE (L.take k) + e.d.size := by rw [← take_step hek, bytesE_append]; simp [bytesE]
        have Hstep := Lib.hid hstep
        have Hg2 := Lib.hid hg2
        have Hby2 := Lib.hid hby2
        obtain ⟨bb, hbb⟩ : ∃ bb, bb = bytesE (L.take k) := ⟨_, rfl⟩
        rw [← hbb] at Hone Hby2 hby ⊢
        clear hone hcd hbr hek hck hgood h0 h0' hcs hstep hg2 hby2 hbb
        go_wp2_with (first
          | (go_at_call 51; refine Hone.out.mono ?_; rintro r w1 ⟨rfl, hb1⟩
             have c1 := Hcd.out w1 hb1
             have Hb1 := Lib.hid (Hbr.out.trans (hb1.mono Hbr.out.size))
             clear hb1))
        go_roundw
        case rel => exact ⟨k + 1, by go_num, by rw [Hby2.out]; go_num, by omega, Hb1.out, Hg2.out, Hstep.out⟩
        case measure => simp [intOf]; omega
    · obtain rfl : k = n := by omega
      have hend : checkL L = (0, 0) := check_end (by rw [← Hn.out]; exact hck)
      have Hend := Lib.hid hend
      have Hbr := Lib.hid hbr
      clear hend hbr hck hgood
      generalize bytesE (L.take k) = bb at *
      go_wp2
      go_ret2
      exact ⟨by rw [Hend.out]; rfl, Hbr.out⟩
end Go.Proofs.YtdkodedocklmdaaGreatDoor
