/- The statements' add: a list with one entry more. -/
import Derived.Test.YtdkodedocklmdaaGreatZPlain
import Derived.Test.YtdkodedocklmdaaGreatTListed
import Derived.Test.YtdkodedocklmdaaGreatRSome
import Derived.Laws.StructEq
set_option linter.unusedSimpArgs false
set_option linter.unusedVariables false
namespace Go.Proofs.YtdkodedocklmdaaGreat
open Go.RowKit Go.Shelf Go.Maps Go.Sort
open Go.Lib hiding intOf size_eq
theorem ents_ownZ {w : World} {base : Nat} {v : Value} {L : List Ent} (h : w.ownsRow base 39 5 v L.length (L.flatMap entC)) : ∃ o cap, v = .slice o L.length cap ∧ EntsAt w (.slice o L.length cap) L := by
  have h4 := ents_of_row h
  obtain ⟨o, cap, hv, _⟩ := id h4
  subst hv
  exact ⟨o, cap, rfl, h4⟩
def addF (e : Ent) (k i : Nat) (L : List Ent) : List Ent := if k < i then L.take k ++ e :: (L.take i).drop k else L.take i
def addL (e : Ent) (k : Nat) (L : List Ent) : List Ent := L.take k ++ e :: L.drop k
theorem take_one {L : List Ent} {i : Nat} {x : Ent} (h : L[i]? = some x) : L.take (i + 1) = L.take i ++ [x] := by
  rw [List.take_add_one, h]; rfl
theorem addF_ne {L : List Ent} {e x : Ent} {k i : Nat} (h : L[i]? = some x) (hne : i ≠ k) : addF e k (i + 1) L = addF e k i L ++ [x] := by
  have hlt := (List.getElem?_eq_some_iff.1 h).1
  unfold addF
  rw [take_one h]
  by_cases hk : k < i
  · rw [if_pos hk, if_pos (by omega), List.drop_append_of_le_length (by rw [List.length_take]; omega)]
    simp
  · rw [if_neg hk, if_neg (by omega)]
theorem addF_eq {L : List Ent} {e x : Ent} {k : Nat} (h : L[k]? = some x) : addF e k (k + 1) L = (addF e k k L ++ [e]) ++ [x] := by
  have hlt := (List.getElem?_eq_some_iff.1 h).1
  unfold addF
  rw [take_one h, if_pos (by omega), if_neg (by omega), List.drop_append_of_le_length (by rw [List.length_take]; omega), List.drop_eq_nil_of_le (by rw [List.length_take]; omega)]
  simp
theorem addF_end {L : List Ent} {e : Ent} {k : Nat} (h : k < L.length) : addF e k L.length L = addL e k L := by
  unfold addF addL
  rw [if_pos h, List.take_length]
theorem flat_two {A B : List Ent} {x : Ent} (h : A = B ++ [x]) : A.flatMap entC = B.flatMap entC ++ entC x ∧ A.length = B.length + 1 := by
  subst h; simp
set_option maxRecDepth 100000 in
set_option maxHeartbeats 2000000 in
theorem add_any (v : Value) (L : List Ent) (e : Ent) (p : Nat) (w : World) (h : EntsAt w v L) (hl : L.length ≤ 1099511627776) (hp : p < L.length) :
    Calls Tryz.prog 16 #[v, .agg #[.string e.p, .int .i64 e.k, .int .i64 e.m, .string e.d, .string e.l], .int .i64 (p : Int)] w fun r w' => ∃ o cap, r = .returned (.slice o (addL e p L).length cap) ∧ EntsAt w' (.slice o (addL e p L).length cap) (addL e p L) ∧ Below w.heap.size w w' := by
  obtain ⟨i0, hi, hz0, hz1, hz2⟩ := info_parts Tryz.infoEntry
  obtain ⟨o, cap, rfl, hlc, hcm, hcells⟩ := h
  obtain ⟨n, hn⟩ : ∃ n, n = L.length := ⟨_, rfl⟩
  have hend := addF_end (e := e) hp
  rw [← hn] at hlc hl hend hp ⊢
  have Hi := Lib.hid hi
  have Hz0 := Lib.hid hz0
  have Hz1 := Lib.hid hz1
  have Hz2 := Lib.hid hz2
  have Hcells := Lib.hid hcells
  have Hn := Lib.hid hn
  have Hend := Lib.hid hend
  clear hcells hn hi hz0 hz1 hz2 hend
  obtain ⟨w0, hw0⟩ : ∃ x, x = w.alloc (.cells #[.string e.p, .int .i64 e.k, .int .i64 e.m, .string e.d, .string e.l] 39) := ⟨_, rfl⟩
  obtain ⟨B, hB⟩ : ∃ B, B = w.heap.size := ⟨_, rfl⟩
  have hs0 : w0.heap.size = B + 1 := by rw [hw0, hB]; simp
  have hb0 : Below B w w0 := by rw [hw0, hB]; exact (Below.refl _ _).alloc (Nat.le_refl _) _
  have hx0 : w0.heap[B]? = some (.cells #[.string e.p, .int .i64 e.k, .int .i64 e.m, .string e.d, .string e.l] 39 (0, 0)) := by rw [hw0, hB]; exact World.alloc_heap_new w _
  have HB0 := Lib.hid hb0
  have HX0 := Lib.hid (show ∀ W, Below (B + 1) w0 W → W.heap[B]? = some (.cells #[.string e.p, .int .i64 e.k, .int .i64 e.m, .string e.d, .string e.l] 39 (0, 0)) from fun W hW => (hW.block B (by omega)).trans hx0)
  have HC := Lib.hid (show ∀ (k : Nat) x, L[k]? = some x → ∃ a, o = some a ∧ a.block < B + 1 ∧ ∀ W, Below (B + 1) w0 W → ∀ j u, (entC x)[j]? = some u → W.cell? ((a.add (k * 5)).add j) = some u from fun k x hk => by
    obtain ⟨a, rfl, hal, hcs⟩ := Hcells.out k x hk
    rw [← hB] at hal
    refine ⟨a, rfl, by omega, fun W hW j u hj => ?_⟩
    have := hcs j u hj
    unfold World.cell? at this ⊢
    rw [hW.block _ (by rw [add_block, add_block]; omega), hb0.block _ (by rw [add_block, add_block]; omega)]
    exact this)
  have HW0 := Lib.hid hw0
  have HBw := Lib.hid hB
  clear hb0 hx0 hw0 Hcells hB
  go_enter Tryz.func16, Tryz.ntmps16
  go_wp2
  rw [← HW0.out, ← HBw.out]
  go_loopw [7, 8] (fun ov iv wr => ∃ (k m : Nat), iv = .int .i64 (k : Int) ∧ k ≤ n ∧ m ≤ k + 1 ∧ m = (addF e p k L).length ∧ wr.ownsRow (B + 1) 39 5 ov m ((addF e p k L).flatMap entC) ∧ Below (B + 1) w0 wr) (fun _ iv _ => n - (intOf iv).toNat)
  case atStart =>
    have h0 : addF e p 0 L = [] := by unfold addF; rw [if_neg (by omega)]; rfl
    exact ⟨0, 0, rfl, Nat.zero_le _, by omega, by rw [h0]; rfl, by rw [h0]; exact World.ownsRow_nil _ _ _ _, Below.refl _ _⟩
  case round =>
    obtain ⟨k, m, rfl, hk, hmk, hm, hrow, hbr⟩ := hrel
    have hbs := hbr.size
    rw [hs0] at hbs
    by_cases hlt : k < n
    · obtain ⟨x, hxk⟩ : ∃ x, L[k]? = some x := ⟨_, List.getElem?_eq_getElem (by rw [← Hn.out]; exact hlt)⟩
      obtain ⟨a, rfl, hal, hcs⟩ := HC.out k x hxk
      have Hcs := Lib.hid hcs
      have HRf := Lib.hid hrow
      have Hbw := Lib.hid hbr
      have HNx := Lib.hid (show ∀ W : World, ∀ j u, (entC x)[j]? = some u → (W.alloc (.cells #[.string x.p, .int .i64 x.k, .int .i64 x.m, .string x.d, .string x.l] 39)).cell? ((⟨W.heap.size, 0, none⟩ : Addr).add j) = some u from fun W => ent_cells (World.alloc_heap_new W _))
      have HNe := Lib.hid (show ∀ W : World, ∀ j u, (entC e)[j]? = some u → (W.alloc (.cells #[.string e.p, .int .i64 e.k, .int .i64 e.m, .string e.d, .string e.l] 39)).cell? ((⟨W.heap.size, 0, none⟩ : Addr).add j) = some u from fun W => ent_cells (World.alloc_heap_new W _))
      have hsf : B + 1 ≤ wr.heap.size := by omega
      by_cases hkp : k = p
      · subst hkp
        have hm2 : m ≤ k := by
          rw [hm]; unfold addF; rw [if_neg (by omega), List.length_take]; omega
        obtain ⟨q1, q2⟩ := flat_two (addF_eq (e := e) hxk)
        obtain ⟨q3, q4⟩ := flat_two (rfl : addF e k k L ++ [e] = addF e k k L ++ [e])
        rw [q3] at q1
        rw [q4, ← hm] at q2
        have Hq1 := Lib.hid q1
        have Hq2 := Lib.hid q2
        have HXf := Lib.hid (ent_cells (HX0.out wr hbr))
        clear q1 q2 q3 q4 hm hrow hbr hcs hxk
        go_wp2_with (first
          | (refine wpList_load_at rfl _ _ rfl ⟨B, 0, none⟩ rfl [.string e.p, .int .i64 e.k, .int .i64 e.m, .string e.d, .string e.l] _ HXf.out Tryz.underlying39 rfl (by kernel_rfl) ?_)
          | (at_builtin; go_loud (refine wpList_append_own _ rfl _ _ 22 rfl (B + 1) 39 i0 _ 5 64 Tryz.underlying22 Hi.out Hz0.out Hz1.out Hz2.out rfl (by decide) _ _ _ rfl (HRf.out.alloc _) ⟨wr.heap.size, 0, none⟩ 1 1 [.string e.p, .int .i64 e.k, .int .i64 e.m, .string e.d, .string e.l] rfl rfl (HNe.out wr) (by simp [Value.oneCell']) (by unfold maxLen; omega) (by omega) (by simp; omega) ?_); intro v2 w2 hown2 hgrow2 _
             have hb2 : Below (B + 1) w0 w2 := (Hbw.out.alloc (by omega) _).grown hgrow2 (by simp; omega) (fun i e => (World.ownsRow.lt HRf.out i e).1)
             have HR2 := Lib.hid hown2
             have Hc2 := Lib.hid (Hcs.out w2 hb2)
             have hs2 : B + 1 ≤ w2.heap.size := by have := hb2.size; omega
             have Hb2 := Lib.hid hb2
             clear hown2 hgrow2 hb2 HRf Hbw)
          | (refine wpList_load_at rfl _ _ rfl (a.add (k * 5)) rfl [.string x.p, .int .i64 x.k, .int .i64 x.m, .string x.d, .string x.l] _ Hc2.out Tryz.underlying39 rfl (by kernel_rfl) ?_)
          | (at_builtin; go_loud (refine wpList_append_own _ rfl _ _ 22 rfl (B + 1) 39 i0 _ 5 64 Tryz.underlying22 Hi.out Hz0.out Hz1.out Hz2.out rfl (by decide) _ _ _ rfl (HR2.out.alloc _) ⟨w2.heap.size, 0, none⟩ 1 1 [.string x.p, .int .i64 x.k, .int .i64 x.m, .string x.d, .string x.l] rfl rfl (HNx.out w2) (by simp [Value.oneCell']) (by unfold maxLen; omega) (by omega) (by simp; omega) ?_); intro v3 w3 hown3 hgrow3 _))
        go_roundw
        case rel => exact ⟨k + 1, m + 1 + 1, by go_num, by omega, by omega, Hq2.out.symm, by rw [Hq1.out]; exact hown3, (Hb2.out.alloc (by omega) _).grown hgrow3 (by simp; omega) (fun i e => (World.ownsRow.lt HR2.out i e).1)⟩
        case measure => simp [intOf]; omega
      · have hbe : ((k : Int) == (p : Int)) = false := by simp; omega
        obtain ⟨q1, q2⟩ := flat_two (addF_ne (e := e) hxk hkp)
        rw [← hm] at q2
        have Hq1 := Lib.hid q1
        have Hq2 := Lib.hid q2
        have Hcf := Lib.hid (Hcs.out wr hbr)
        clear q1 q2 hm hrow hbr hcs hxk
        go_wp2_with (first
          | (refine wpList_load_at rfl _ _ rfl (a.add (k * 5)) rfl [.string x.p, .int .i64 x.k, .int .i64 x.m, .string x.d, .string x.l] _ Hcf.out Tryz.underlying39 rfl (by kernel_rfl) ?_)
          | (at_builtin; go_loud (refine wpList_append_own _ rfl _ _ 22 rfl (B + 1) 39 i0 _ 5 64 Tryz.underlying22 Hi.out Hz0.out Hz1.out Hz2.out rfl (by decide) _ _ _ rfl (HRf.out.alloc _) ⟨wr.heap.size, 0, none⟩ 1 1 [.string x.p, .int .i64 x.k, .int .i64 x.m, .string x.d, .string x.l] rfl rfl (HNx.out wr) (by simp [Value.oneCell']) (by unfold maxLen; omega) (by omega) (by simp; omega) ?_); intro v2 w2 hown2 hgrow2 _))
        go_roundw
        case rel => exact ⟨k + 1, m + 1, by go_num, by omega, by omega, Hq2.out.symm, by rw [Hq1.out]; exact hown2, (Hbw.out.alloc (by omega) _).grown hgrow2 (by simp; omega) (fun i e => (World.ownsRow.lt HRf.out i e).1)⟩
        case measure => simp [intOf]; omega
    · obtain rfl : k = n := by omega
      rw [Hend.out] at hm hrow
      have HR := Lib.hid hrow
      have Hbase := Lib.hid (show Below B w wr from HB0.out.trans (hbr.mono (by omega)))
      have Hm := Lib.hid hm
      clear hm hrow hbr
      go_wp2
      go_ret
      obtain ⟨o', c', rfl, h1⟩ := ents_ownZ (show wr.ownsRow (B + 1) 39 5 u7 (addL e p L).length ((addL e p L).flatMap entC) from by rw [← Hm.out]; exact HR.out)
      exact ⟨o', c', rfl, h1, by rw [← HBw.out]; exact Hbase.out⟩
end Go.Proofs.YtdkodedocklmdaaGreat
