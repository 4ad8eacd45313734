/- The contracts of the tree's Of and of the copy of entries that the statements make. -/
import Derived.Test.YtipfccfjniglbaaGreatDoorTBuild
import Derived.Test.YtipfccfjniglbaaGreatDoorRPieces
set_option linter.unusedSimpArgs false
set_option linter.unusedVariables false
namespace Go.Proofs.YtipfccfjniglbaaGreatDoor
open Go.RowKit Go.Maps
open Go.Lib hiding intOf size_eq
theorem Tryz.infoEntry : (Tryz.prog.info? 52).map (fun i => (i.zero, i.size, i.bytes)) = some (some (.agg #[.string ⟨#[]⟩, .int .i64 0, .int .i64 0, .string ⟨#[]⟩, .string ⟨#[]⟩]), 5, 64) := by kernel_rfl
theorem flat_get : ∀ {L : List Ent} {i j : Nat} {e : Ent} {x : Value}, L[i]? = some e → (entC e)[j]? = some x → (L.flatMap entC)[i * 5 + j]? = some x
  | [], i, j, e, x, h, _ => by simp at h
  | y :: L, 0, j, e, x, h, hx => by
    simp at h
    subst h
    have hj : j < (entC y).length := (List.getElem?_eq_some_iff.1 hx).1
    rw [List.flatMap_cons, List.getElem?_append_left (by simpa using hj)]
    simpa using hx
  | y :: L, i + 1, j, e, x, h, hx => by
    rw [List.flatMap_cons, List.getElem?_append_right (by simp [entC]; omega)]
    have := flat_get (L := L) (i := i) (by simpa using h) hx
    rw [← this]
    congr 1
    simp [entC]
    omega
theorem flat_len (L : List Ent) : (L.flatMap entC).length = L.length * 5 := by
  induction L with
  | nil => rfl
  | cons e L ih => rw [List.flatMap_cons, List.length_append, ih]; simp [entC]; omega
theorem ents_of_row {w : World} {base : Nat} {v : Value} {L : List Ent} (h : w.ownsRow base 52 5 v L.length (L.flatMap entC)) : EntsAt w v L := by
  obtain ⟨h1, h2⟩ := h
  rcases h2 with ⟨rfl, h0⟩ | ⟨g, cap, cur, rfl, hb, hg, hcap, hmx, hsz, htk⟩
  · obtain rfl : L = [] := List.eq_nil_of_length_eq_zero h0
    exact ⟨none, 0, rfl, Nat.le_refl _, by simp, fun i e he => by simp at he⟩
  · refine ⟨some ⟨g, 0, none⟩, cap, rfl, hcap, hmx, fun i e he => ⟨_, rfl, (Array.getElem?_eq_some_iff.1 hg).1, fun j x hx => ?_⟩⟩
    have hi : i < L.length := (List.getElem?_eq_some_iff.1 he).1
    have hj : j < 5 := by simpa [entC] using (List.getElem?_eq_some_iff.1 hx).1
    have e1 : ((⟨g, 0, none⟩ : Addr).add (i * 5)).add j = ⟨g, i * 5 + j, none⟩ := by
      unfold Addr.add
      split <;> split <;> simp_all
    rw [e1]
    have h3 := flat_get he hx
    rw [← htk, List.getElem?_take, if_pos (by omega)] at h3
    unfold World.cell?
    rw [hg]
    simpa using h3
set_option maxRecDepth 100000 in
set_option maxHeartbeats 4000000 in
theorem copy_any (v : Value) (L : List Ent) (w : World) (h : EntsAt w v L) (hl : L.length ≤ 1099511627776) :
    Calls Tryz.prog 46 #[v] w fun r w' => ∃ v', r = .returned v' ∧ EntsAt w' v' L ∧ Below w.heap.size w w' := by
  obtain ⟨i0, hi, hz0, hz1, hz2⟩ := info_parts Tryz.infoEntry
  obtain ⟨o, cap, rfl, hlc, hcm, hcells⟩ := h
  obtain ⟨n, hn⟩ : ∃ n, n = L.length := ⟨_, rfl⟩
  rw [← hn] at hlc hl ⊢
  have Hi := Lib.hid hi
  have Hz0 := Lib.hid hz0
  have Hz1 := Lib.hid hz1
  have Hz2 := Lib.hid hz2
  have Hcells := Lib.hid hcells
  have Hn := Lib.hid hn
  clear hcells hn hi hz0 hz1 hz2
  go_enter Tryz.func46, Tryz.ntmps46
  go_wp2
  go_loopw [3, 4] (fun ov iv wr => ∃ (k : Nat), iv = .int .i64 (k : Int) ∧ k ≤ n ∧ wr.ownsRow w.heap.size 52 5 ov k ((L.take k).flatMap entC) ∧ Below w.heap.size w wr) (fun _ iv _ => n - (intOf iv).toNat)
  case atStart => exact ⟨0, rfl, Nat.zero_le _, World.ownsRow_nil _ _ _ _, Below.refl _ _⟩
  case round =>
    obtain ⟨k, rfl, hk, hrow, hbr⟩ := hrel
    have hbs := hbr.size
    by_cases hlt : k < n
    · obtain ⟨e, hek⟩ : ∃ e, L[k]? = some e := ⟨_, List.getElem?_eq_getElem (by rw [← Hn.out]; exact hlt)⟩
      obtain ⟨a, rfl, hal, hcs⟩ := Hcells.out k e hek
      have hcw : ∀ j x, (entC e)[j]? = some x → wr.cell? ((a.add (k * 5)).add j) = some x := fun j x hx => by
        have := hcs j x hx
        unfold World.cell? at this ⊢
        rw [hbr.block _ (by rw [add_block, add_block]; omega)]
        exact this
      have hnew : ∀ j u, (entC e)[j]? = some u → (wr.alloc (.cells #[.string e.p, .int .i64 e.k, .int .i64 e.m, .string e.d, .string e.l] 52)).cell? ((⟨wr.heap.size, 0, none⟩ : Addr).add j) = some u := ent_cells (World.alloc_heap_new wr _)
      have Hcw := Lib.hid hcw
      have Hnew := Lib.hid hnew
      have Hrow := Lib.hid hrow
      have Hbr := Lib.hid hbr
      have Hstep := Lib.hid (show (L.take k).flatMap entC ++ entC e = (L.take (k + 1)).flatMap entC by rw [← take_step hek, List.flatMap_append, List.flatMap_singleton])
      clear hcw hnew hrow hbr hcs hek
      go_wp2_with (first
        | (refine wpList_load_at rfl _ _ rfl (a.add (k * 5)) rfl [.string e.p, .int .i64 e.k, .int .i64 e.m, .string e.d, .string e.l] _ Hcw.out Tryz.underlying52 rfl (by kernel_rfl) ?_)
        | (at_builtin; go_loud (refine wpList_append_own _ rfl _ _ 22 rfl w.heap.size 52 i0 _ 5 64 Tryz.underlying22 Hi.out Hz0.out Hz1.out Hz2.out rfl (by decide) _ _ _ rfl (Hrow.out.alloc _) ⟨wr.heap.size, 0, none⟩ 1 1 [.string e.p, .int .i64 e.k, .int .i64 e.m, .string e.d, .string e.l] rfl rfl Hnew.out (by simp [Value.oneCell']) (by unfold maxLen; omega) (by omega) (by simp; omega) ?_); intro v' w2 hown' hgrow _))
      go_roundw
      case rel => exact ⟨k + 1, by go_num, by omega, by rw [← Hstep.out]; exact hown', (Hbr.out.alloc (by omega) _).grown hgrow (by simp; omega) (fun k e => (World.ownsRow.lt Hrow.out k e).1)⟩
      case measure => simp [intOf]; omega
    · obtain rfl : k = n := by omega
      have Hrow := Lib.hid (show wr.ownsRow w.heap.size 52 5 u3 L.length (L.flatMap entC) by rw [Hn.out, List.take_length] at hrow; exact hrow)
      have Hbr := Lib.hid hbr
      clear hrow hbr
      go_wp2
      go_ret
      exact ⟨_, rfl, ents_of_row Hrow.out, Hbr.out⟩
end Go.Proofs.YtipfccfjniglbaaGreatDoor
